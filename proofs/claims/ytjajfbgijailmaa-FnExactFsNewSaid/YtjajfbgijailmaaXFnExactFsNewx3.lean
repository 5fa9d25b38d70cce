-- Written by the kit's printer at the call of wip/tools/xprint.sh (this session's knobs and contracts). Not trusted: Lean checks it.
import Derived.Test.YtjajfbgijailmaaLT
import Derived.Test.YtjajfbgijailmaaXFnExactFsNewx0
import Derived.Test.YtjajfbgijailmaaXFnExactFsNewx2
namespace Go.Proofs.Ytjajfbgijailmaa.XFnExactFsNew
open Go.RowKit Go.Proofs.YtjajfbgijailmaaW.PrintWords Go.Proofs.YtjajfbgijailmaaW.PrintLast Go.Proofs.YtjajfbgijailmaaW.PrintMore
attribute [local go_sem] max2_int min2_int max_two min_two max_three min_three max_four min_four   -- for this text's walks alone
set_option linter.unusedVariables false
set_option linter.unusedSimpArgs false

/-! ### laws_heldEntryS: function 80 -/
def laws_heldEntryS.l0 : Nat → List (S119) → Int → Int → Option (Int)
 | 0,_,_,_ => none
 | k + 1,x0,x1,x5 => if x5 < (x0.length : Int) then (if 0 ≤ x5 then ((laws_markText.f k x1).bind fun t153 => (if ((rd_T119 x0 x5).f0).toList = t153.toList then (if ((rd_T119 x0 x5).f1) = (wrap64 (x1 + 1)) then (laws_heldEntryS.l0 k x0 (wrap64 ((wrap64 (x1 + 1)) + 1)) (wrap64 (x5 + 1))) else (some (-1))) else (some (-1)))) else (none)) else (some x1)
def laws_heldEntryS.f (k : Nat) (l0 : List (S119)) (a1 : Int) : Option (Int) := laws_heldEntryS.l0 k l0 a1 0
theorem laws_heldEntryS.mono_l : ∀ k,(∀ y0 y1 y2,LeO (laws_heldEntryS.l0 k y0 y1 y2) (laws_heldEntryS.l0 (k + 1) y0 y1 y2))
 | 0 => fun _ _ _ r h => by simp [laws_heldEntryS.l0] at h
 | k + 1 => by
  have ih0 := laws_heldEntryS.mono_l k
  ·intro y0 y1 y2
   unfold laws_heldEntryS.l0
   repeat' first
   | (with_reducible exact ih0 _ _ _)
   | (with_reducible exact laws_markText.mono _ _)
   | (with_reducible exact LeO.refl _)
   | (with_reducible exact LeO.none _)
   | (with_reducible refine LeO.ite ?_ ?_)
   | (with_reducible refine LeO.bind ?_ (fun _ => ?_))
   | exact ih0 _ _ _
   | exact laws_markText.mono _ _
   | exact LeO.none _
   | refine LeO.ite ?_ ?_
   | refine LeO.bind ?_ (fun _ => ?_)
theorem laws_heldEntryS.mono : ∀ a0 a1 k,LeO (laws_heldEntryS.f k a0 a1) (laws_heldEntryS.f (k + 1) a0 a1) := by
 intro a0 a1 k
 have ih0 := laws_heldEntryS.mono_l k
 unfold laws_heldEntryS.f
 repeat' first
   | (with_reducible exact ih0 _ _ _)
   | (with_reducible exact laws_markText.mono _ _)
   | (with_reducible exact LeO.refl _)
   | (with_reducible exact LeO.none _)
   | (with_reducible refine LeO.ite ?_ ?_)
   | (with_reducible refine LeO.bind ?_ (fun _ => ?_))
   | exact ih0 _ _ _
   | exact laws_markText.mono _ _
   | exact LeO.none _
   | refine LeO.ite ?_ ?_
   | refine LeO.bind ?_ (fun _ => ?_)
def laws_heldEntryS.T4 : Bool × List (List Nat × List Nat) := (true,[([],[]),([],[]),([0,1],[0,1]),([2],[2]),([3],[3]),([],[]),([5],[5]),([4,6],[4,6])])
def laws_heldEntryS.B4 : List Nat := [0,0,3,7,15,0,32,127]
theorem laws_heldEntryS.tab4 : rtab .any (opsOf Try.f80 4) = laws_heldEntryS.T4 := by kernel_rfl
theorem laws_heldEntryS.bits4 : waitsOk laws_heldEntryS.T4.2 laws_heldEntryS.B4 = true := by kernel_rfl
set_option maxHeartbeats 8000000 in
set_option maxRecDepth 100000 in
theorem laws_heldEntryS.calls (k : Nat) (A0 : Option Addr) (c0 : Nat) (l0 : List (S119)) (a1 : Int) (r : Int) (w : World) (hr0 : Kd.C k119 w A0 l0.length l0) (hc0 : l0.length ≤ c0) (h : laws_heldEntryS.f k l0 a1 = some r) :
  Calls Try.prog 80 #[.slice A0 l0.length c0,.int .i64 a1] w fun e w' => e = .returned (.int .i64 r) ∧ Below w.heap.size w w' := by
 have HR0 := Aside0.mk hr0;have HC0 := Aside0.mk hc0;clear hr0 hc0;have HB := Aside0.mk (Below.refl w.heap.size w);have H : (laws_heldEntryS.l0 k l0 a1 0) = some r := h;clear h;have H' := Aside0.mk H;clear H
 go_enter Try.func80,Try.ntmps80
 go_wp2
 go_loopg [1,5] k (fun kq v1 v5 w' => ∃ (x1_1 : Int) (x5_1 : Int),v1 = .int .i64 x1_1 ∧ v5 = .int .i64 x5_1 ∧ Aside0 (laws_heldEntryS.l0 kq l0 x1_1 x5_1 = some r) ∧ Aside0 (kq ≤ k) ∧ Aside0 (Below w.heap.size w w'))
 case atStart => exact ⟨(a1),(0),(by first | rfl | (simp; done) | (simp [*]; done)),(by first | rfl | (simp; done) | (simp [*]; done)),H',⟨Nat.le_refl _⟩,⟨by repeat (first | (with_reducible first | exact HB.out | apply below_alloc | apply pw_below_drewN | apply below_drew1) | exact HB.out)⟩⟩
 case round =>
  clear H';(try clear p2);obtain ⟨x1_1,x5_1,rfl,rfl,HA,HK1,HB⟩ := hrel
  cases gk with
  | zero => exact absurd HA.out (by simp [laws_heldEntryS.l0])
  | succ k1 =>
   have H := HA.out;clear HA
   simp only [laws_heldEntryS.l0] at H
   by_cases c3 : x5_1 < (l0.length : Int)
   ·rw [if_pos c3] at H;have c3b0 : decide (x5_1 < (l0.length : Int)) = true := decide_eq_true c3;clear c3;by_cases c4 : 0 ≤ x5_1
    ·rw [if_pos c4] at H;have c4b0 : decide (0 ≤ x5_1) = true := decide_eq_true c4;clear c4;replace H := Option.bind_eq_some_iff.mp H;obtain ⟨t153,A50,H⟩ := H;replace H : (if ((rd_T119 l0 x5_1).f0).toList = t153.toList then (if ((rd_T119 l0 x5_1).f1) = (wrap64 (x1_1 + 1)) then (laws_heldEntryS.l0 k1 l0 (wrap64 ((wrap64 (x1_1 + 1)) + 1)) (wrap64 (x5_1 + 1))) else (some (-1))) else (some (-1))) = some r := H;have A5 := Aside0.mk A50;clear A50;by_cases c6 : ((rd_T119 l0 x5_1).f0).toList = t153.toList
     ·rw [if_pos c6] at H;have c6b0 : (((rd_T119 l0 x5_1).f0).toList == t153.toList) = true := beq_iff_eq.mpr c6;have c6b1 : (((rd_T119 l0 x5_1).f0).toList != t153.toList) = false := bne_eq_false_iff_eq.mpr c6;clear c6;by_cases c7 : ((rd_T119 l0 x5_1).f1) = (wrap64 (x1_1 + 1))
      ·rw [if_pos c7] at H;have c7b0 : (((rd_T119 l0 x5_1).f1) == (wrap64 (x1_1 + 1))) = true := beq_iff_eq.mpr c7;have c7b1 : (((rd_T119 l0 x5_1).f1) != (wrap64 (x1_1 + 1))) = false := bne_eq_false_iff_eq.mpr c7;clear c7;have H' := Aside0.mk H;clear H
       try go_wp2
       have p152 : 0 ≤ (x5_1 : Int) := of_decide_eq_true (by first | (with_reducible assumption) | assumption);have q152 : x5_1 < (l0.length : Int) := of_decide_eq_true (by first | (with_reducible assumption) | assumption);obtain ⟨ad152,e152,hx152_0,hx152_1⟩ := at_T119 HR0.out x5_1 p152 q152;have hw152_1 := hx152_1;have hw152_0 := hx152_0
       cases e152
       replace hx152_0 := (HB.out.cell (World.block_lt_of_cell? w _ hx152_0)).trans hx152_0;replace hx152_1 := (HB.out.cell (World.block_lt_of_cell? w _ hx152_1)).trans hx152_1;replace p152 := eq_true p152;replace q152 := eq_true q152;(have hL_ : ∀ s_ : LT.Later wr,s_.wd.cell? (ad152.add ((x5_1).toNat * 2)) = some (.string ((rd_T119 l0 x5_1).f0)) ∧ s_.wd.cell? ⟨(ad152.add ((x5_1).toNat * 2)).block,(ad152.add ((x5_1).toNat * 2)).off + 1,none⟩ = some (.int .i64 ((rd_T119 l0 x5_1).f1)) := fun s_ => ⟨LT.later_cell (((HB.out.cell (World.block_lt_of_cell? w _ hw152_0)).trans hw152_0)) s_,LT.later_cell (((HB.out.cell (World.block_lt_of_cell? w _ hw152_1)).trans hw152_1)) s_⟩)
       refine LT.wp_region_later (by kernel_rfl) (by kernel_rfl) ?_
       repeat (first | go_big_quiet_step ((first | (go_at_call 78; with_reducible exact LT.Later.call (laws_markText.calls k1 x1_1 t153 _ A5.out)))) | quiet_step ((first | (go_at_call 78; with_reducible exact LT.Later.call (laws_markText.calls k1 x1_1 t153 _ A5.out)))))
       refine wpQuiet_nil ?_
       rintro _ ⟨s_,rfl⟩
       have hb_ := s_.h;clear hL_;generalize s_.wd = w8z at hb_ ⊢;clear s_;have n0_ := Aside0.mk (below_step HB.out hb_);clear HB;have HB := n0_;clear n0_;clear hb_;have p154 : 0 ≤ (x5_1 : Int) := of_decide_eq_true (by first | (with_reducible assumption) | assumption);have q154 : x5_1 < (l0.length : Int) := of_decide_eq_true (by first | (with_reducible assumption) | assumption);obtain ⟨ad154,e154,hx154_0,hx154_1⟩ := at_T119 HR0.out x5_1 p154 q154;obtain rfl : ad152 = ad154 := (by injection e154);replace hx154_0 := (HB.out.cell (World.block_lt_of_cell? w _ hx154_0)).trans hx154_0;replace hx154_1 := (HB.out.cell (World.block_lt_of_cell? w _ hx154_1)).trans hx154_1;replace p154 := eq_true p154;replace q154 := eq_true q154
       try go_wp2
       go_roundg k1
       case measure => have := HK1.out; omega
       case rel => exact ⟨(wrap64 ((wrap64 (x1_1 + 1)) + 1)),(wrap64 (x5_1 + 1)),(by first | rfl | (simp; done) | (simp [*]; done)),(by first | rfl | (simp; done) | (simp [*]; done)),H',⟨by have := HK1.out; omega⟩,⟨by repeat (first | (with_reducible first | exact HB.out | apply below_alloc | apply pw_below_drewN | apply below_drew1) | exact HB.out)⟩⟩
      ·rw [if_neg c7] at H;have c7b0 : (((rd_T119 l0 x5_1).f1) == (wrap64 (x1_1 + 1))) = false := beq_eq_false_iff_ne.mpr c7;have c7b1 : (((rd_T119 l0 x5_1).f1) != (wrap64 (x1_1 + 1))) = true := bne_iff_ne.mpr c7;obtain rfl := Option.some.inj H
       simp only [Option.some.injEq,Prod.mk.injEq] at H
       obtain ⟨rfl⟩ := H
       try go_wp2
       have p152 : 0 ≤ (x5_1 : Int) := of_decide_eq_true (by first | (with_reducible assumption) | assumption);have q152 : x5_1 < (l0.length : Int) := of_decide_eq_true (by first | (with_reducible assumption) | assumption);obtain ⟨ad152,e152,hx152_0,hx152_1⟩ := at_T119 HR0.out x5_1 p152 q152;have hw152_1 := hx152_1;have hw152_0 := hx152_0
       cases e152
       replace hx152_0 := (HB.out.cell (World.block_lt_of_cell? w _ hx152_0)).trans hx152_0;replace hx152_1 := (HB.out.cell (World.block_lt_of_cell? w _ hx152_1)).trans hx152_1;replace p152 := eq_true p152;replace q152 := eq_true q152;(have hL_ : ∀ s_ : LT.Later wr,s_.wd.cell? (ad152.add ((x5_1).toNat * 2)) = some (.string ((rd_T119 l0 x5_1).f0)) ∧ s_.wd.cell? ⟨(ad152.add ((x5_1).toNat * 2)).block,(ad152.add ((x5_1).toNat * 2)).off + 1,none⟩ = some (.int .i64 ((rd_T119 l0 x5_1).f1)) := fun s_ => ⟨LT.later_cell (((HB.out.cell (World.block_lt_of_cell? w _ hw152_0)).trans hw152_0)) s_,LT.later_cell (((HB.out.cell (World.block_lt_of_cell? w _ hw152_1)).trans hw152_1)) s_⟩)
       refine LT.wp_region_later (by kernel_rfl) (by kernel_rfl) ?_
       repeat (first | go_big_quiet_step ((first | (go_at_call 78; with_reducible exact LT.Later.call (laws_markText.calls k1 x1_1 t153 _ A5.out)))) | quiet_step ((first | (go_at_call 78; with_reducible exact LT.Later.call (laws_markText.calls k1 x1_1 t153 _ A5.out)))))
       refine wpQuiet_nil ?_
       rintro _ ⟨s_,rfl⟩
       have hb_ := s_.h;clear hL_;generalize s_.wd = w10z at hb_ ⊢;clear s_;have n0_ := Aside0.mk (below_step HB.out hb_);clear HB;have HB := n0_;clear n0_;clear hb_;have p154 : 0 ≤ (x5_1 : Int) := of_decide_eq_true (by first | (with_reducible assumption) | assumption);have q154 : x5_1 < (l0.length : Int) := of_decide_eq_true (by first | (with_reducible assumption) | assumption);obtain ⟨ad154,e154,hx154_0,hx154_1⟩ := at_T119 HR0.out x5_1 p154 q154;obtain rfl : ad152 = ad154 := (by injection e154);replace hx154_0 := (HB.out.cell (World.block_lt_of_cell? w _ hx154_0)).trans hx154_0;replace hx154_1 := (HB.out.cell (World.block_lt_of_cell? w _ hx154_1)).trans hx154_1;replace p154 := eq_true p154;replace q154 := eq_true q154
       try go_wp2
       go_ret
       exact ⟨by first | rfl | (simp [errW_none,errW_some] <;> rfl) | (simp [*,errW_none,errW_some] <;> rfl),by repeat (first | (with_reducible first | exact HB.out | apply below_alloc | apply pw_below_drewN | apply below_drew1) | exact HB.out)⟩
     ·rw [if_neg c6] at H;have c6b0 : (((rd_T119 l0 x5_1).f0).toList == t153.toList) = false := beq_eq_false_iff_ne.mpr c6;have c6b1 : (((rd_T119 l0 x5_1).f0).toList != t153.toList) = true := bne_iff_ne.mpr c6;obtain rfl := Option.some.inj H
      simp only [Option.some.injEq,Prod.mk.injEq] at H
      obtain ⟨rfl⟩ := H
      try go_wp2
      have p152 : 0 ≤ (x5_1 : Int) := of_decide_eq_true (by first | (with_reducible assumption) | assumption);have q152 : x5_1 < (l0.length : Int) := of_decide_eq_true (by first | (with_reducible assumption) | assumption);obtain ⟨ad152,e152,hx152_0,hx152_1⟩ := at_T119 HR0.out x5_1 p152 q152;have hw152_1 := hx152_1;have hw152_0 := hx152_0
      cases e152
      replace hx152_0 := (HB.out.cell (World.block_lt_of_cell? w _ hx152_0)).trans hx152_0;replace hx152_1 := (HB.out.cell (World.block_lt_of_cell? w _ hx152_1)).trans hx152_1;replace p152 := eq_true p152;replace q152 := eq_true q152;(have hL_ : ∀ s_ : LT.Later wr,s_.wd.cell? (ad152.add ((x5_1).toNat * 2)) = some (.string ((rd_T119 l0 x5_1).f0)) ∧ s_.wd.cell? ⟨(ad152.add ((x5_1).toNat * 2)).block,(ad152.add ((x5_1).toNat * 2)).off + 1,none⟩ = some (.int .i64 ((rd_T119 l0 x5_1).f1)) := fun s_ => ⟨LT.later_cell (((HB.out.cell (World.block_lt_of_cell? w _ hw152_0)).trans hw152_0)) s_,LT.later_cell (((HB.out.cell (World.block_lt_of_cell? w _ hw152_1)).trans hw152_1)) s_⟩)
      refine LT.wp_region_later (by kernel_rfl) (by kernel_rfl) ?_
      repeat (first | go_big_quiet_step ((first | (go_at_call 78; with_reducible exact LT.Later.call (laws_markText.calls k1 x1_1 t153 _ A5.out)))) | quiet_step ((first | (go_at_call 78; with_reducible exact LT.Later.call (laws_markText.calls k1 x1_1 t153 _ A5.out)))))
      refine wpQuiet_nil ?_
      rintro _ ⟨s_,rfl⟩
      have hb_ := s_.h;clear hL_;generalize s_.wd = w12z at hb_ ⊢;clear s_;have n0_ := Aside0.mk (below_step HB.out hb_);clear HB;have HB := n0_;clear n0_;clear hb_
      try go_wp2
      go_ret
      exact ⟨by first | rfl | (simp [errW_none,errW_some] <;> rfl) | (simp [*,errW_none,errW_some] <;> rfl),by repeat (first | (with_reducible first | exact HB.out | apply below_alloc | apply pw_below_drewN | apply below_drew1) | exact HB.out)⟩
    ·rw [if_neg c4] at H
     exact absurd H (by simp)
   ·rw [if_neg c3] at H;have c3b0 : decide (x5_1 < (l0.length : Int)) = false := decide_eq_false c3;clear c3;obtain rfl := Option.some.inj H
    simp only [Option.some.injEq,Prod.mk.injEq] at H
    obtain ⟨rfl⟩ := H
    go_wp2
    go_ret
    exact ⟨by first | rfl | (simp [errW_none,errW_some] <;> rfl) | (simp [*,errW_none,errW_some] <;> rfl),by repeat (first | (with_reducible first | exact HB.out | apply below_alloc | apply pw_below_drewN | apply below_drew1) | exact HB.out)⟩

end Go.Proofs.Ytjajfbgijailmaa.XFnExactFsNew
