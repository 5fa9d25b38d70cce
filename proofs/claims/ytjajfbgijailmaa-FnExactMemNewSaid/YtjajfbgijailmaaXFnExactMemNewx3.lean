-- Written by the kit's printer at the call of wip/tools/xprint.sh (this session's knobs and contracts). Not trusted: Lean checks it.
import Derived.Test.YtjajfbgijailmaaLT
import Derived.Test.YtjajfbgijailmaaXFnExactMemNewx0
import Derived.Test.YtjajfbgijailmaaXFnExactMemNewx2
namespace Go.Proofs.Ytjajfbgijailmaa.XFnExactMemNew
open Go.RowKit Go.Proofs.YtjajfbgijailmaaW.PrintWords Go.Proofs.YtjajfbgijailmaaW.PrintLast Go.Proofs.YtjajfbgijailmaaW.PrintMore
attribute [local go_sem] max2_int min2_int max_two min_two max_three min_three max_four min_four   -- for this text's walks alone
set_option linter.unusedVariables false
set_option linter.unusedSimpArgs false

/-! ### laws_eqAreaS: function 81 -/
def laws_eqAreaS.l0 : Nat → List (S114) → List (S114) → Int → Option (Bool)
 | 0,_,_,_ => none
 | k + 1,x0,x1,x5 => if x5 < (x0.length : Int) then (if 0 ≤ x5 then (if x5 < (x1.length : Int) then ((laws_eqArea.f ((rd_T114 x0 x5).f0) ((rd_T114 x0 x5).f1) ((rd_T114 x0 x5).f2) ((rd_T114 x0 x5).f3) ((rd_T114 x1 x5).f0) ((rd_T114 x1 x5).f1) ((rd_T114 x1 x5).f2) ((rd_T114 x1 x5).f3)).bind fun t169 => (if t169 = true then (laws_eqAreaS.l0 k x0 x1 (wrap64 (x5 + 1))) else (some false))) else (none)) else (none)) else (some true)
def laws_eqAreaS.f (k : Nat) (l0 : List (S114)) (l1 : List (S114)) : Option (Bool) := if (l0.length : Int) = (l1.length : Int) then (laws_eqAreaS.l0 k l0 l1 0) else (some false)
theorem laws_eqAreaS.mono_l : ∀ k,(∀ y0 y1 y2,LeO (laws_eqAreaS.l0 k y0 y1 y2) (laws_eqAreaS.l0 (k + 1) y0 y1 y2))
 | 0 => fun _ _ _ r h => by simp [laws_eqAreaS.l0] at h
 | k + 1 => by
  have ih0 := laws_eqAreaS.mono_l k
  ·intro y0 y1 y2
   unfold laws_eqAreaS.l0
   repeat' first
   | (with_reducible exact ih0 _ _ _)
   | (with_reducible exact LeO.refl _)
   | (with_reducible exact LeO.none _)
   | (with_reducible refine LeO.ite ?_ ?_)
   | (with_reducible refine LeO.bind ?_ (fun _ => ?_))
   | exact ih0 _ _ _
   | exact LeO.none _
   | refine LeO.ite ?_ ?_
   | refine LeO.bind ?_ (fun _ => ?_)
theorem laws_eqAreaS.mono : ∀ a0 a1 k,LeO (laws_eqAreaS.f k a0 a1) (laws_eqAreaS.f (k + 1) a0 a1) := by
 intro a0 a1 k
 have ih0 := laws_eqAreaS.mono_l k
 unfold laws_eqAreaS.f
 repeat' first
   | (with_reducible exact ih0 _ _ _)
   | (with_reducible exact LeO.refl _)
   | (with_reducible exact LeO.none _)
   | (with_reducible refine LeO.ite ?_ ?_)
   | (with_reducible refine LeO.bind ?_ (fun _ => ?_))
   | exact ih0 _ _ _
   | exact LeO.none _
   | refine LeO.ite ?_ ?_
   | refine LeO.bind ?_ (fun _ => ?_)
def laws_eqAreaS.T6 : Bool × List (List Nat × List Nat) := (true,[([],[]),([],[]),([0,1],[0,1]),([2],[2]),([],[]),([],[]),([4,5],[4,5]),([6],[6]),([3,7],[3,7]),([8],[8])])
def laws_eqAreaS.B6 : List Nat := [0,0,3,7,0,0,48,112,255,511]
theorem laws_eqAreaS.tab6 : rtab .any (opsOf Try.f81 6) = laws_eqAreaS.T6 := by kernel_rfl
theorem laws_eqAreaS.bits6 : waitsOk laws_eqAreaS.T6.2 laws_eqAreaS.B6 = true := by kernel_rfl
set_option maxHeartbeats 8000000 in
set_option maxRecDepth 100000 in
theorem laws_eqAreaS.calls (k : Nat) (A0 : Option Addr) (c0 : Nat) (l0 : List (S114)) (A1 : Option Addr) (c1 : Nat) (l1 : List (S114)) (r : Bool) (w : World) (hr0 : Kd.C k114 w A0 l0.length l0) (hc0 : l0.length ≤ c0) (hr1 : Kd.C k114 w A1 l1.length l1) (hc1 : l1.length ≤ c1) (h : laws_eqAreaS.f k l0 l1 = some r) :
  Calls Try.prog 81 #[.slice A0 l0.length c0,.slice A1 l1.length c1] w fun e w' => e = .returned (.bool r) ∧ Below w.heap.size w w' := by
 have hu114 := Try.underlying114;have HR0 := Aside0.mk hr0;have HC0 := Aside0.mk hc0;clear hr0 hc0;have HR1 := Aside0.mk hr1;have HC1 := Aside0.mk hc1;clear hr1 hc1;have HB := Aside0.mk (Below.refl w.heap.size w);have H : (if (l0.length : Int) = (l1.length : Int) then (laws_eqAreaS.l0 k l0 l1 0) else (some false)) = some r := h;clear h;by_cases c3 : (l0.length : Int) = (l1.length : Int)
 ·rw [if_pos c3] at H;have c3b0 : ((l0.length : Int) == (l1.length : Int)) = true := beq_iff_eq.mpr c3;have c3b1 : ((l0.length : Int) != (l1.length : Int)) = false := bne_eq_false_iff_eq.mpr c3;(have c3b2 : (l0.length == l1.length) = true := by first | simpa using c3 | (simp at c3 ⊢; omega));clear c3;have H' := Aside0.mk H;clear H
  go_enter Try.func81,Try.ntmps81
  go_wp2
  go_loopg [5] k (fun kq v5 w' => ∃ (x5_1 : Int),v5 = .int .i64 x5_1 ∧ Aside0 (laws_eqAreaS.l0 kq l0 l1 x5_1 = some r) ∧ Aside0 (kq ≤ k) ∧ Aside0 (Below w.heap.size w w'))
  case atStart => exact ⟨(0),(by first | rfl | (simp; done) | (simp [*]; done)),H',⟨Nat.le_refl _⟩,⟨by repeat (first | (with_reducible first | exact HB.out | apply below_alloc | apply pw_below_drewN | apply below_drew1) | exact HB.out)⟩⟩
  case round =>
   clear H';(try clear c1);(try clear p2);(try clear c3);(try clear c3b0);(try clear c3b1);(try clear c3b2);obtain ⟨x5_1,rfl,HA,HK1,HB⟩ := hrel
   cases gk with
   | zero => exact absurd HA.out (by simp [laws_eqAreaS.l0])
   | succ k1 =>
    have H := HA.out;clear HA
    simp only [laws_eqAreaS.l0] at H
    by_cases c4 : x5_1 < (l0.length : Int)
    ·rw [if_pos c4] at H;have c4b0 : decide (x5_1 < (l0.length : Int)) = true := decide_eq_true c4;clear c4;by_cases c5 : 0 ≤ x5_1
     ·rw [if_pos c5] at H;have c5b0 : decide (0 ≤ x5_1) = true := decide_eq_true c5;clear c5;by_cases c6 : x5_1 < (l1.length : Int)
      ·rw [if_pos c6] at H;have c6b0 : decide (x5_1 < (l1.length : Int)) = true := decide_eq_true c6;clear c6;replace H := Option.bind_eq_some_iff.mp H;obtain ⟨t169,A70,H⟩ := H;replace H : (if t169 = true then (laws_eqAreaS.l0 k1 l0 l1 (wrap64 (x5_1 + 1))) else (some false)) = some r := H;have A7 := Aside0.mk A70;clear A70;by_cases c8 : t169 = true
       ·subst c8;(have H1 : (laws_eqAreaS.l0 k1 l0 l1 (wrap64 (x5_1 + 1))) = some r := by rw [if_pos rfl] at H; exact H);clear H;have H := H1;clear H1;have H' := Aside0.mk H;clear H
        try go_wp2
        have p167 : 0 ≤ (x5_1 : Int) := of_decide_eq_true (by first | (with_reducible assumption) | assumption);have q167 : x5_1 < (l0.length : Int) := of_decide_eq_true (by first | (with_reducible assumption) | assumption);obtain ⟨ad167,e167,hx167_0,hx167_1,hx167_2,hx167_3⟩ := at_T114 HR0.out x5_1 p167 q167;have hw167_3 := hx167_3;have hw167_2 := hx167_2;have hw167_1 := hx167_1;have hw167_0 := hx167_0
        cases e167
        replace hx167_0 := (HB.out.cell (World.block_lt_of_cell? w _ hx167_0)).trans hx167_0;replace hx167_1 := (HB.out.cell (World.block_lt_of_cell? w _ hx167_1)).trans hx167_1;replace hx167_2 := (HB.out.cell (World.block_lt_of_cell? w _ hx167_2)).trans hx167_2;replace hx167_3 := (HB.out.cell (World.block_lt_of_cell? w _ hx167_3)).trans hx167_3;replace p167 := eq_true p167;replace q167 := eq_true q167;have p168 : 0 ≤ (x5_1 : Int) := of_decide_eq_true (by first | (with_reducible assumption) | assumption);have q168 : x5_1 < (l1.length : Int) := of_decide_eq_true (by first | (with_reducible assumption) | assumption);obtain ⟨ad168,e168,hx168_0,hx168_1,hx168_2,hx168_3⟩ := at_T114 HR1.out x5_1 p168 q168;have hw168_3 := hx168_3;have hw168_2 := hx168_2;have hw168_1 := hx168_1;have hw168_0 := hx168_0
        cases e168
        replace hx168_0 := (HB.out.cell (World.block_lt_of_cell? w _ hx168_0)).trans hx168_0;replace hx168_1 := (HB.out.cell (World.block_lt_of_cell? w _ hx168_1)).trans hx168_1;replace hx168_2 := (HB.out.cell (World.block_lt_of_cell? w _ hx168_2)).trans hx168_2;replace hx168_3 := (HB.out.cell (World.block_lt_of_cell? w _ hx168_3)).trans hx168_3;replace p168 := eq_true p168;replace q168 := eq_true q168;(have hL_ : ∀ s_ : LT.Later wr,s_.wd.cell? (ad167.add ((x5_1).toNat * 4)) = some (.int .i64 ((rd_T114 l0 x5_1).f0)) ∧ s_.wd.cell? ⟨(ad167.add ((x5_1).toNat * 4)).block,(ad167.add ((x5_1).toNat * 4)).off + 1,none⟩ = some (.int .i64 ((rd_T114 l0 x5_1).f1)) ∧ s_.wd.cell? ⟨(ad167.add ((x5_1).toNat * 4)).block,(ad167.add ((x5_1).toNat * 4)).off + 2,none⟩ = some (.bool ((rd_T114 l0 x5_1).f2)) ∧ s_.wd.cell? ⟨(ad167.add ((x5_1).toNat * 4)).block,(ad167.add ((x5_1).toNat * 4)).off + 3,none⟩ = some (.bool ((rd_T114 l0 x5_1).f3)) ∧ s_.wd.cell? (ad168.add ((x5_1).toNat * 4)) = some (.int .i64 ((rd_T114 l1 x5_1).f0)) ∧ s_.wd.cell? ⟨(ad168.add ((x5_1).toNat * 4)).block,(ad168.add ((x5_1).toNat * 4)).off + 1,none⟩ = some (.int .i64 ((rd_T114 l1 x5_1).f1)) ∧ s_.wd.cell? ⟨(ad168.add ((x5_1).toNat * 4)).block,(ad168.add ((x5_1).toNat * 4)).off + 2,none⟩ = some (.bool ((rd_T114 l1 x5_1).f2)) ∧ s_.wd.cell? ⟨(ad168.add ((x5_1).toNat * 4)).block,(ad168.add ((x5_1).toNat * 4)).off + 3,none⟩ = some (.bool ((rd_T114 l1 x5_1).f3)) := fun s_ => ⟨LT.later_cell (((HB.out.cell (World.block_lt_of_cell? w _ hw167_0)).trans hw167_0)) s_,LT.later_cell (((HB.out.cell (World.block_lt_of_cell? w _ hw167_1)).trans hw167_1)) s_,LT.later_cell (((HB.out.cell (World.block_lt_of_cell? w _ hw167_2)).trans hw167_2)) s_,LT.later_cell (((HB.out.cell (World.block_lt_of_cell? w _ hw167_3)).trans hw167_3)) s_,LT.later_cell (((HB.out.cell (World.block_lt_of_cell? w _ hw168_0)).trans hw168_0)) s_,LT.later_cell (((HB.out.cell (World.block_lt_of_cell? w _ hw168_1)).trans hw168_1)) s_,LT.later_cell (((HB.out.cell (World.block_lt_of_cell? w _ hw168_2)).trans hw168_2)) s_,LT.later_cell (((HB.out.cell (World.block_lt_of_cell? w _ hw168_3)).trans hw168_3)) s_⟩)
        refine LT.wp_region_later (by kernel_rfl) (by kernel_rfl) ?_
        repeat (first | go_big_quiet_step ((first | (go_at_call 84; with_reducible exact LT.Later.call (laws_eqArea.calls ((rd_T114 l0 x5_1).f0) ((rd_T114 l0 x5_1).f1) ((rd_T114 l0 x5_1).f2) ((rd_T114 l0 x5_1).f3) ((rd_T114 l1 x5_1).f0) ((rd_T114 l1 x5_1).f1) ((rd_T114 l1 x5_1).f2) ((rd_T114 l1 x5_1).f3) true _ A7.out)))) | quiet_step ((first | (go_at_call 84; with_reducible exact LT.Later.call (laws_eqArea.calls ((rd_T114 l0 x5_1).f0) ((rd_T114 l0 x5_1).f1) ((rd_T114 l0 x5_1).f2) ((rd_T114 l0 x5_1).f3) ((rd_T114 l1 x5_1).f0) ((rd_T114 l1 x5_1).f1) ((rd_T114 l1 x5_1).f2) ((rd_T114 l1 x5_1).f3) true _ A7.out)))))
        refine wpQuiet_nil ?_
        rintro _ ⟨s_,rfl⟩
        have hb_ := s_.h;clear hL_;generalize s_.wd = w9z at hb_ ⊢;clear s_;have n0_ := Aside0.mk (below_step HB.out hb_);clear HB;have HB := n0_;clear n0_;clear hb_
        try go_wp2
        go_roundg k1
        case measure => have := HK1.out; omega
        case rel => exact ⟨(wrap64 (x5_1 + 1)),(by first | rfl | (simp; done) | (simp [*]; done)),H',⟨by have := HK1.out; omega⟩,⟨by repeat (first | (with_reducible first | exact HB.out | apply below_alloc | apply pw_below_drewN | apply below_drew1) | exact HB.out)⟩⟩
       ·replace c8 := Bool.eq_false_iff.mpr c8;subst c8;(have H1 : (some false) = some r := by rw [if_neg (show ¬ (false = true) by decide)] at H; exact H);clear H;have H := H1;clear H1;obtain rfl := Option.some.inj H
        simp only [Option.some.injEq,Prod.mk.injEq] at H
        obtain ⟨rfl⟩ := H
        try go_wp2
        have p167 : 0 ≤ (x5_1 : Int) := of_decide_eq_true (by first | (with_reducible assumption) | assumption);have q167 : x5_1 < (l0.length : Int) := of_decide_eq_true (by first | (with_reducible assumption) | assumption);obtain ⟨ad167,e167,hx167_0,hx167_1,hx167_2,hx167_3⟩ := at_T114 HR0.out x5_1 p167 q167;have hw167_3 := hx167_3;have hw167_2 := hx167_2;have hw167_1 := hx167_1;have hw167_0 := hx167_0
        cases e167
        replace hx167_0 := (HB.out.cell (World.block_lt_of_cell? w _ hx167_0)).trans hx167_0;replace hx167_1 := (HB.out.cell (World.block_lt_of_cell? w _ hx167_1)).trans hx167_1;replace hx167_2 := (HB.out.cell (World.block_lt_of_cell? w _ hx167_2)).trans hx167_2;replace hx167_3 := (HB.out.cell (World.block_lt_of_cell? w _ hx167_3)).trans hx167_3;replace p167 := eq_true p167;replace q167 := eq_true q167;have p168 : 0 ≤ (x5_1 : Int) := of_decide_eq_true (by first | (with_reducible assumption) | assumption);have q168 : x5_1 < (l1.length : Int) := of_decide_eq_true (by first | (with_reducible assumption) | assumption);obtain ⟨ad168,e168,hx168_0,hx168_1,hx168_2,hx168_3⟩ := at_T114 HR1.out x5_1 p168 q168;have hw168_3 := hx168_3;have hw168_2 := hx168_2;have hw168_1 := hx168_1;have hw168_0 := hx168_0
        cases e168
        replace hx168_0 := (HB.out.cell (World.block_lt_of_cell? w _ hx168_0)).trans hx168_0;replace hx168_1 := (HB.out.cell (World.block_lt_of_cell? w _ hx168_1)).trans hx168_1;replace hx168_2 := (HB.out.cell (World.block_lt_of_cell? w _ hx168_2)).trans hx168_2;replace hx168_3 := (HB.out.cell (World.block_lt_of_cell? w _ hx168_3)).trans hx168_3;replace p168 := eq_true p168;replace q168 := eq_true q168;(have hL_ : ∀ s_ : LT.Later wr,s_.wd.cell? (ad167.add ((x5_1).toNat * 4)) = some (.int .i64 ((rd_T114 l0 x5_1).f0)) ∧ s_.wd.cell? ⟨(ad167.add ((x5_1).toNat * 4)).block,(ad167.add ((x5_1).toNat * 4)).off + 1,none⟩ = some (.int .i64 ((rd_T114 l0 x5_1).f1)) ∧ s_.wd.cell? ⟨(ad167.add ((x5_1).toNat * 4)).block,(ad167.add ((x5_1).toNat * 4)).off + 2,none⟩ = some (.bool ((rd_T114 l0 x5_1).f2)) ∧ s_.wd.cell? ⟨(ad167.add ((x5_1).toNat * 4)).block,(ad167.add ((x5_1).toNat * 4)).off + 3,none⟩ = some (.bool ((rd_T114 l0 x5_1).f3)) ∧ s_.wd.cell? (ad168.add ((x5_1).toNat * 4)) = some (.int .i64 ((rd_T114 l1 x5_1).f0)) ∧ s_.wd.cell? ⟨(ad168.add ((x5_1).toNat * 4)).block,(ad168.add ((x5_1).toNat * 4)).off + 1,none⟩ = some (.int .i64 ((rd_T114 l1 x5_1).f1)) ∧ s_.wd.cell? ⟨(ad168.add ((x5_1).toNat * 4)).block,(ad168.add ((x5_1).toNat * 4)).off + 2,none⟩ = some (.bool ((rd_T114 l1 x5_1).f2)) ∧ s_.wd.cell? ⟨(ad168.add ((x5_1).toNat * 4)).block,(ad168.add ((x5_1).toNat * 4)).off + 3,none⟩ = some (.bool ((rd_T114 l1 x5_1).f3)) := fun s_ => ⟨LT.later_cell (((HB.out.cell (World.block_lt_of_cell? w _ hw167_0)).trans hw167_0)) s_,LT.later_cell (((HB.out.cell (World.block_lt_of_cell? w _ hw167_1)).trans hw167_1)) s_,LT.later_cell (((HB.out.cell (World.block_lt_of_cell? w _ hw167_2)).trans hw167_2)) s_,LT.later_cell (((HB.out.cell (World.block_lt_of_cell? w _ hw167_3)).trans hw167_3)) s_,LT.later_cell (((HB.out.cell (World.block_lt_of_cell? w _ hw168_0)).trans hw168_0)) s_,LT.later_cell (((HB.out.cell (World.block_lt_of_cell? w _ hw168_1)).trans hw168_1)) s_,LT.later_cell (((HB.out.cell (World.block_lt_of_cell? w _ hw168_2)).trans hw168_2)) s_,LT.later_cell (((HB.out.cell (World.block_lt_of_cell? w _ hw168_3)).trans hw168_3)) s_⟩)
        refine LT.wp_region_later (by kernel_rfl) (by kernel_rfl) ?_
        repeat (first | go_big_quiet_step ((first | (go_at_call 84; with_reducible exact LT.Later.call (laws_eqArea.calls ((rd_T114 l0 x5_1).f0) ((rd_T114 l0 x5_1).f1) ((rd_T114 l0 x5_1).f2) ((rd_T114 l0 x5_1).f3) ((rd_T114 l1 x5_1).f0) ((rd_T114 l1 x5_1).f1) ((rd_T114 l1 x5_1).f2) ((rd_T114 l1 x5_1).f3) false _ A7.out)))) | quiet_step ((first | (go_at_call 84; with_reducible exact LT.Later.call (laws_eqArea.calls ((rd_T114 l0 x5_1).f0) ((rd_T114 l0 x5_1).f1) ((rd_T114 l0 x5_1).f2) ((rd_T114 l0 x5_1).f3) ((rd_T114 l1 x5_1).f0) ((rd_T114 l1 x5_1).f1) ((rd_T114 l1 x5_1).f2) ((rd_T114 l1 x5_1).f3) false _ A7.out)))))
        refine wpQuiet_nil ?_
        rintro _ ⟨s_,rfl⟩
        have hb_ := s_.h;clear hL_;generalize s_.wd = w11z at hb_ ⊢;clear s_;have n0_ := Aside0.mk (below_step HB.out hb_);clear HB;have HB := n0_;clear n0_;clear hb_
        try go_wp2
        go_ret
        exact ⟨by first | rfl | (simp [errW_none,errW_some] <;> rfl) | (simp [*,errW_none,errW_some] <;> rfl),by repeat (first | (with_reducible first | exact HB.out | apply below_alloc | apply pw_below_drewN | apply below_drew1) | exact HB.out)⟩
      ·rw [if_neg c6] at H
       exact absurd H (by simp)
     ·rw [if_neg c5] at H
      exact absurd H (by simp)
    ·rw [if_neg c4] at H;have c4b0 : decide (x5_1 < (l0.length : Int)) = false := decide_eq_false c4;clear c4;obtain rfl := Option.some.inj H
     simp only [Option.some.injEq,Prod.mk.injEq] at H
     obtain ⟨rfl⟩ := H
     go_wp2
     go_ret
     exact ⟨by first | rfl | (simp [errW_none,errW_some] <;> rfl) | (simp [*,errW_none,errW_some] <;> rfl),by repeat (first | (with_reducible first | exact HB.out | apply below_alloc | apply pw_below_drewN | apply below_drew1) | exact HB.out)⟩
 ·rw [if_neg c3] at H;have c3b0 : ((l0.length : Int) == (l1.length : Int)) = false := beq_eq_false_iff_ne.mpr c3;have c3b1 : ((l0.length : Int) != (l1.length : Int)) = true := bne_iff_ne.mpr c3;(have c3b2 : (l0.length == l1.length) = false := by first | simpa using c3 | (simp at c3 ⊢; omega));obtain rfl := Option.some.inj H
  simp only [Option.some.injEq,Prod.mk.injEq] at H
  obtain ⟨rfl⟩ := H
  go_enter Try.func81,Try.ntmps81
  go_wp2
  go_ret
  exact ⟨by first | rfl | (simp [errW_none,errW_some] <;> rfl) | (simp [*,errW_none,errW_some] <;> rfl),by repeat (first | (with_reducible first | exact HB.out | apply below_alloc | apply pw_below_drewN | apply below_drew1) | exact HB.out)⟩

/-! ### laws_eqSlot: function 85 -/
def laws_eqSlot.f (a0_0 : Int) (a0_1 : Int) (a0_2 : Bool) (a0_3 : Bool) (a1_0 : Int) (a1_1 : Int) (a1_2 : Bool) (a1_3 : Bool) : Option (Bool) := if a0_0 = a1_0 then (if a0_1 = a1_1 then (if (a0_2 != a1_2) = true then (some false) else (if (a0_3 != a1_3) = true then (some false) else (some true))) else (some false)) else (some false)
set_option maxHeartbeats 8000000 in
set_option maxRecDepth 100000 in
theorem laws_eqSlot.calls (a0_0 : Int) (a0_1 : Int) (a0_2 : Bool) (a0_3 : Bool) (a1_0 : Int) (a1_1 : Int) (a1_2 : Bool) (a1_3 : Bool) (r : Bool) (w : World) (h : laws_eqSlot.f a0_0 a0_1 a0_2 a0_3 a1_0 a1_1 a1_2 a1_3 = some r) :
  Calls Try.prog 85 #[.agg #[.int .i64 a0_0,.int .i64 a0_1,.bool a0_2,.bool a0_3],.agg #[.int .i64 a1_0,.int .i64 a1_1,.bool a1_2,.bool a1_3]] w fun e w' => e = .returned (.bool r) ∧ Below w.heap.size w w' := by
 have hu116 := Try.underlying116;have HB := Aside0.mk (Below.refl w.heap.size w);have H : (if a0_0 = a1_0 then (if a0_1 = a1_1 then (if (a0_2 != a1_2) = true then (some false) else (if (a0_3 != a1_3) = true then (some false) else (some true))) else (some false)) else (some false)) = some r := h;clear h;by_cases c3 : a0_0 = a1_0
 ·rw [if_pos c3] at H;have c3b0 : (a0_0 == a1_0) = true := beq_iff_eq.mpr c3;have c3b1 : (a0_0 != a1_0) = false := bne_eq_false_iff_eq.mpr c3;clear c3;by_cases c4 : a0_1 = a1_1
  ·rw [if_pos c4] at H;have c4b0 : (a0_1 == a1_1) = true := beq_iff_eq.mpr c4;have c4b1 : (a0_1 != a1_1) = false := bne_eq_false_iff_eq.mpr c4;clear c4;by_cases c5 : (a0_2 != a1_2) = true
   ·rw [if_pos c5] at H;have c5b0 : (a0_2 != a1_2) = true := c5;(try (have c5b1 : decide (a0_2 = a1_2) = false := by simpa using c5));(try (have c5b2 : (a0_2 == a1_2) = false := by simpa using c5));(try (have c5b3 : ¬ (a0_2 = a1_2) := by simpa using c5));clear c5;obtain rfl := Option.some.inj H
    simp only [Option.some.injEq,Prod.mk.injEq] at H
    obtain ⟨rfl⟩ := H
    go_enter Try.func85,Try.ntmps85
    go_wp2_with (first | ((with_reducible refine gate_dst (N := 2) rfl ?_); refine box_event ?hg (N := 2) ?hd (cs := #[.int .i64 a0_0,.int .i64 a0_1,.bool a0_2,.bool a0_3]) (t := 116) ?hr ?_; (case hd => rfl); (case hg => rfl); (case hr => first | (go_simp; done) | (go_simp; rfl)); intro gb170 hg w6 hbox hb; have n0_ := Aside0.mk (below_step (by repeat (first | (with_reducible first | exact HB.out | apply below_alloc | apply pw_below_drewN | apply below_drew1) | exact HB.out)) hb); have n1_ := Aside0.mk (hbox); have n2_ := Aside0.mk ((by rw [hg]; exact (below_size (by repeat (first | (with_reducible first | exact HB.out | apply below_alloc | apply pw_below_drewN | apply below_drew1) | exact HB.out))) : w.heap.size ≤ gb170)); have n3_ := Aside0.mk ((by rw [hg]; exact (below_size (by repeat (first | (with_reducible first | exact HB.out | apply below_alloc | apply pw_below_drewN | apply below_drew1) | exact HB.out))) : w.heap.size ≤ gb170)); clear HB; have HB := n0_; have BK170 := n1_; have GW170 := n2_; have GE170 := n3_; clear n0_ n1_ n2_ n3_; clear hb hbox hg) | ((with_reducible refine gate_dst (N := 3) rfl ?_); refine box_event ?hg (N := 3) ?hd (cs := #[.int .i64 a1_0,.int .i64 a1_1,.bool a1_2,.bool a1_3]) (t := 116) ?hr ?_; (case hd => rfl); (case hg => rfl); (case hr => first | (go_simp; done) | (go_simp; rfl)); intro gb171 hg w7 hbox hb; have n0_ := Aside0.mk (blk_below (g := gb170) (o := .cells #[.int .i64 a0_0,.int .i64 a0_1,.bool a0_2,.bool a0_3] 116 (0,0)) (by (with_reducible repeat (first | refine blk_drewN ?_ _ | refine blk_drew ?_ | refine blk_alloc ?_ _)); exact BK170.out) hb); have n1_ := Aside0.mk (below_step (by repeat (first | (with_reducible first | exact HB.out | apply below_alloc | apply pw_below_drewN | apply below_drew1 | refine below_set ?_ GE170.out) | exact HB.out)) hb); have n2_ := Aside0.mk (hbox); have n3_ := Aside0.mk ((by rw [hg]; exact (below_size (by repeat (first | (with_reducible first | exact HB.out | apply below_alloc | apply pw_below_drewN | apply below_drew1 | refine below_set ?_ GE170.out) | exact HB.out))) : w.heap.size ≤ gb171)); have n4_ := Aside0.mk ((by rw [hg]; exact (below_size (by repeat (first | (with_reducible first | exact HB.out | apply below_alloc | apply pw_below_drewN | apply below_drew1 | refine below_set ?_ GE170.out) | exact HB.out))) : w.heap.size ≤ gb171)); have n5_ := Aside0.mk ((by rw [hg]; exact Nat.ne_of_lt (blk_lt (g := gb170) (o := .cells #[.int .i64 a0_0,.int .i64 a0_1,.bool a0_2,.bool a0_3] 116 (0,0)) (by (with_reducible repeat (first | refine blk_drewN ?_ _ | refine blk_drew ?_ | refine blk_alloc ?_ _)); exact BK170.out)) : gb170 ≠ gb171)); have n6_ := Aside0.mk ((by rw [hg]; exact Nat.ne_of_gt (blk_lt (g := gb170) (o := .cells #[.int .i64 a0_0,.int .i64 a0_1,.bool a0_2,.bool a0_3] 116 (0,0)) (by (with_reducible repeat (first | refine blk_drewN ?_ _ | refine blk_drew ?_ | refine blk_alloc ?_ _)); exact BK170.out)) : gb171 ≠ gb170)); clear BK170; clear HB; have BK170 := n0_; have HB := n1_; have BK171 := n2_; have GW171 := n3_; have GE171 := n4_; have NB170_171 := n5_; have NB171_170 := n6_; clear n0_ n1_ n2_ n3_ n4_ n5_ n6_; clear hb hbox hg; have hnb8 := NB170_171.out; have hnc8 := NB171_170.out; have hcz9 := pk4 BK170.out; have hcz10 := pk4 BK171.out))
    go_ret
    exact ⟨by first | rfl | (simp [errW_none,errW_some] <;> rfl) | (simp [*,errW_none,errW_some] <;> rfl),by repeat (first | (with_reducible first | exact HB.out | apply below_alloc | apply pw_below_drewN | apply below_drew1 | refine below_set ?_ GE170.out | refine below_set ?_ GE171.out) | exact HB.out)⟩
   ·rw [if_neg c5] at H;(have c5b0 : (a0_2 != a1_2) = false := by simpa using c5);(try (have c5b1 : decide (a0_2 = a1_2) = true := by simpa using c5));(try (have c5b2 : (a0_2 == a1_2) = true := by simpa using c5));clear c5;by_cases c11 : (a0_3 != a1_3) = true
    ·rw [if_pos c11] at H;have c11b0 : (a0_3 != a1_3) = true := c11;(try (have c11b1 : decide (a0_3 = a1_3) = false := by simpa using c11));(try (have c11b2 : (a0_3 == a1_3) = false := by simpa using c11));(try (have c11b3 : ¬ (a0_3 = a1_3) := by simpa using c11));clear c11;obtain rfl := Option.some.inj H
     simp only [Option.some.injEq,Prod.mk.injEq] at H
     obtain ⟨rfl⟩ := H
     go_enter Try.func85,Try.ntmps85
     go_wp2_with (first | ((with_reducible refine gate_dst (N := 2) rfl ?_); refine box_event ?hg (N := 2) ?hd (cs := #[.int .i64 a0_0,.int .i64 a0_1,.bool a0_2,.bool a0_3]) (t := 116) ?hr ?_; (case hd => rfl); (case hg => rfl); (case hr => first | (go_simp; done) | (go_simp; rfl)); intro gb170 hg w12 hbox hb; have n0_ := Aside0.mk (below_step (by repeat (first | (with_reducible first | exact HB.out | apply below_alloc | apply pw_below_drewN | apply below_drew1) | exact HB.out)) hb); have n1_ := Aside0.mk (hbox); have n2_ := Aside0.mk ((by rw [hg]; exact (below_size (by repeat (first | (with_reducible first | exact HB.out | apply below_alloc | apply pw_below_drewN | apply below_drew1) | exact HB.out))) : w.heap.size ≤ gb170)); have n3_ := Aside0.mk ((by rw [hg]; exact (below_size (by repeat (first | (with_reducible first | exact HB.out | apply below_alloc | apply pw_below_drewN | apply below_drew1) | exact HB.out))) : w.heap.size ≤ gb170)); clear HB; have HB := n0_; have BK170 := n1_; have GW170 := n2_; have GE170 := n3_; clear n0_ n1_ n2_ n3_; clear hb hbox hg) | ((with_reducible refine gate_dst (N := 3) rfl ?_); refine box_event ?hg (N := 3) ?hd (cs := #[.int .i64 a1_0,.int .i64 a1_1,.bool a1_2,.bool a1_3]) (t := 116) ?hr ?_; (case hd => rfl); (case hg => rfl); (case hr => first | (go_simp; done) | (go_simp; rfl)); intro gb171 hg w13 hbox hb; have n0_ := Aside0.mk (blk_below (g := gb170) (o := .cells #[.int .i64 a0_0,.int .i64 a0_1,.bool a0_2,.bool a0_3] 116 (0,0)) (by (with_reducible repeat (first | refine blk_drewN ?_ _ | refine blk_drew ?_ | refine blk_alloc ?_ _)); exact BK170.out) hb); have n1_ := Aside0.mk (below_step (by repeat (first | (with_reducible first | exact HB.out | apply below_alloc | apply pw_below_drewN | apply below_drew1 | refine below_set ?_ GE170.out) | exact HB.out)) hb); have n2_ := Aside0.mk (hbox); have n3_ := Aside0.mk ((by rw [hg]; exact (below_size (by repeat (first | (with_reducible first | exact HB.out | apply below_alloc | apply pw_below_drewN | apply below_drew1 | refine below_set ?_ GE170.out) | exact HB.out))) : w.heap.size ≤ gb171)); have n4_ := Aside0.mk ((by rw [hg]; exact (below_size (by repeat (first | (with_reducible first | exact HB.out | apply below_alloc | apply pw_below_drewN | apply below_drew1 | refine below_set ?_ GE170.out) | exact HB.out))) : w.heap.size ≤ gb171)); have n5_ := Aside0.mk ((by rw [hg]; exact Nat.ne_of_lt (blk_lt (g := gb170) (o := .cells #[.int .i64 a0_0,.int .i64 a0_1,.bool a0_2,.bool a0_3] 116 (0,0)) (by (with_reducible repeat (first | refine blk_drewN ?_ _ | refine blk_drew ?_ | refine blk_alloc ?_ _)); exact BK170.out)) : gb170 ≠ gb171)); have n6_ := Aside0.mk ((by rw [hg]; exact Nat.ne_of_gt (blk_lt (g := gb170) (o := .cells #[.int .i64 a0_0,.int .i64 a0_1,.bool a0_2,.bool a0_3] 116 (0,0)) (by (with_reducible repeat (first | refine blk_drewN ?_ _ | refine blk_drew ?_ | refine blk_alloc ?_ _)); exact BK170.out)) : gb171 ≠ gb170)); clear BK170; clear HB; have BK170 := n0_; have HB := n1_; have BK171 := n2_; have GW171 := n3_; have GE171 := n4_; have NB170_171 := n5_; have NB171_170 := n6_; clear n0_ n1_ n2_ n3_ n4_ n5_ n6_; clear hb hbox hg; have hnb14 := NB170_171.out; have hnc14 := NB171_170.out; have hcz15 := pk4 BK170.out; have hcz16 := pk4 BK171.out))
     go_ret
     exact ⟨by first | rfl | (simp [errW_none,errW_some] <;> rfl) | (simp [*,errW_none,errW_some] <;> rfl),by repeat (first | (with_reducible first | exact HB.out | apply below_alloc | apply pw_below_drewN | apply below_drew1 | refine below_set ?_ GE170.out | refine below_set ?_ GE171.out) | exact HB.out)⟩
    ·rw [if_neg c11] at H;(have c11b0 : (a0_3 != a1_3) = false := by simpa using c11);(try (have c11b1 : decide (a0_3 = a1_3) = true := by simpa using c11));(try (have c11b2 : (a0_3 == a1_3) = true := by simpa using c11));clear c11;obtain rfl := Option.some.inj H
     simp only [Option.some.injEq,Prod.mk.injEq] at H
     obtain ⟨rfl⟩ := H
     go_enter Try.func85,Try.ntmps85
     go_wp2_with (first | ((with_reducible refine gate_dst (N := 2) rfl ?_); refine box_event ?hg (N := 2) ?hd (cs := #[.int .i64 a0_0,.int .i64 a0_1,.bool a0_2,.bool a0_3]) (t := 116) ?hr ?_; (case hd => rfl); (case hg => rfl); (case hr => first | (go_simp; done) | (go_simp; rfl)); intro gb170 hg w17 hbox hb; have n0_ := Aside0.mk (below_step (by repeat (first | (with_reducible first | exact HB.out | apply below_alloc | apply pw_below_drewN | apply below_drew1) | exact HB.out)) hb); have n1_ := Aside0.mk (hbox); have n2_ := Aside0.mk ((by rw [hg]; exact (below_size (by repeat (first | (with_reducible first | exact HB.out | apply below_alloc | apply pw_below_drewN | apply below_drew1) | exact HB.out))) : w.heap.size ≤ gb170)); have n3_ := Aside0.mk ((by rw [hg]; exact (below_size (by repeat (first | (with_reducible first | exact HB.out | apply below_alloc | apply pw_below_drewN | apply below_drew1) | exact HB.out))) : w.heap.size ≤ gb170)); clear HB; have HB := n0_; have BK170 := n1_; have GW170 := n2_; have GE170 := n3_; clear n0_ n1_ n2_ n3_; clear hb hbox hg) | ((with_reducible refine gate_dst (N := 3) rfl ?_); refine box_event ?hg (N := 3) ?hd (cs := #[.int .i64 a1_0,.int .i64 a1_1,.bool a1_2,.bool a1_3]) (t := 116) ?hr ?_; (case hd => rfl); (case hg => rfl); (case hr => first | (go_simp; done) | (go_simp; rfl)); intro gb171 hg w18 hbox hb; have n0_ := Aside0.mk (blk_below (g := gb170) (o := .cells #[.int .i64 a0_0,.int .i64 a0_1,.bool a0_2,.bool a0_3] 116 (0,0)) (by (with_reducible repeat (first | refine blk_drewN ?_ _ | refine blk_drew ?_ | refine blk_alloc ?_ _)); exact BK170.out) hb); have n1_ := Aside0.mk (below_step (by repeat (first | (with_reducible first | exact HB.out | apply below_alloc | apply pw_below_drewN | apply below_drew1 | refine below_set ?_ GE170.out) | exact HB.out)) hb); have n2_ := Aside0.mk (hbox); have n3_ := Aside0.mk ((by rw [hg]; exact (below_size (by repeat (first | (with_reducible first | exact HB.out | apply below_alloc | apply pw_below_drewN | apply below_drew1 | refine below_set ?_ GE170.out) | exact HB.out))) : w.heap.size ≤ gb171)); have n4_ := Aside0.mk ((by rw [hg]; exact (below_size (by repeat (first | (with_reducible first | exact HB.out | apply below_alloc | apply pw_below_drewN | apply below_drew1 | refine below_set ?_ GE170.out) | exact HB.out))) : w.heap.size ≤ gb171)); have n5_ := Aside0.mk ((by rw [hg]; exact Nat.ne_of_lt (blk_lt (g := gb170) (o := .cells #[.int .i64 a0_0,.int .i64 a0_1,.bool a0_2,.bool a0_3] 116 (0,0)) (by (with_reducible repeat (first | refine blk_drewN ?_ _ | refine blk_drew ?_ | refine blk_alloc ?_ _)); exact BK170.out)) : gb170 ≠ gb171)); have n6_ := Aside0.mk ((by rw [hg]; exact Nat.ne_of_gt (blk_lt (g := gb170) (o := .cells #[.int .i64 a0_0,.int .i64 a0_1,.bool a0_2,.bool a0_3] 116 (0,0)) (by (with_reducible repeat (first | refine blk_drewN ?_ _ | refine blk_drew ?_ | refine blk_alloc ?_ _)); exact BK170.out)) : gb171 ≠ gb170)); clear BK170; clear HB; have BK170 := n0_; have HB := n1_; have BK171 := n2_; have GW171 := n3_; have GE171 := n4_; have NB170_171 := n5_; have NB171_170 := n6_; clear n0_ n1_ n2_ n3_ n4_ n5_ n6_; clear hb hbox hg; have hnb19 := NB170_171.out; have hnc19 := NB171_170.out; have hcz20 := pk4 BK170.out; have hcz21 := pk4 BK171.out))
     go_ret
     exact ⟨by first | rfl | (simp [errW_none,errW_some] <;> rfl) | (simp [*,errW_none,errW_some] <;> rfl),by repeat (first | (with_reducible first | exact HB.out | apply below_alloc | apply pw_below_drewN | apply below_drew1 | refine below_set ?_ GE170.out | refine below_set ?_ GE171.out) | exact HB.out)⟩
  ·rw [if_neg c4] at H;have c4b0 : (a0_1 == a1_1) = false := beq_eq_false_iff_ne.mpr c4;have c4b1 : (a0_1 != a1_1) = true := bne_iff_ne.mpr c4;obtain rfl := Option.some.inj H
   simp only [Option.some.injEq,Prod.mk.injEq] at H
   obtain ⟨rfl⟩ := H
   go_enter Try.func85,Try.ntmps85
   go_wp2_with (first | ((with_reducible refine gate_dst (N := 2) rfl ?_); refine box_event ?hg (N := 2) ?hd (cs := #[.int .i64 a0_0,.int .i64 a0_1,.bool a0_2,.bool a0_3]) (t := 116) ?hr ?_; (case hd => rfl); (case hg => rfl); (case hr => first | (go_simp; done) | (go_simp; rfl)); intro gb170 hg w22 hbox hb; have n0_ := Aside0.mk (below_step (by repeat (first | (with_reducible first | exact HB.out | apply below_alloc | apply pw_below_drewN | apply below_drew1) | exact HB.out)) hb); have n1_ := Aside0.mk (hbox); have n2_ := Aside0.mk ((by rw [hg]; exact (below_size (by repeat (first | (with_reducible first | exact HB.out | apply below_alloc | apply pw_below_drewN | apply below_drew1) | exact HB.out))) : w.heap.size ≤ gb170)); have n3_ := Aside0.mk ((by rw [hg]; exact (below_size (by repeat (first | (with_reducible first | exact HB.out | apply below_alloc | apply pw_below_drewN | apply below_drew1) | exact HB.out))) : w.heap.size ≤ gb170)); clear HB; have HB := n0_; have BK170 := n1_; have GW170 := n2_; have GE170 := n3_; clear n0_ n1_ n2_ n3_; clear hb hbox hg) | ((with_reducible refine gate_dst (N := 3) rfl ?_); refine box_event ?hg (N := 3) ?hd (cs := #[.int .i64 a1_0,.int .i64 a1_1,.bool a1_2,.bool a1_3]) (t := 116) ?hr ?_; (case hd => rfl); (case hg => rfl); (case hr => first | (go_simp; done) | (go_simp; rfl)); intro gb171 hg w23 hbox hb; have n0_ := Aside0.mk (blk_below (g := gb170) (o := .cells #[.int .i64 a0_0,.int .i64 a0_1,.bool a0_2,.bool a0_3] 116 (0,0)) (by (with_reducible repeat (first | refine blk_drewN ?_ _ | refine blk_drew ?_ | refine blk_alloc ?_ _)); exact BK170.out) hb); have n1_ := Aside0.mk (below_step (by repeat (first | (with_reducible first | exact HB.out | apply below_alloc | apply pw_below_drewN | apply below_drew1 | refine below_set ?_ GE170.out) | exact HB.out)) hb); have n2_ := Aside0.mk (hbox); have n3_ := Aside0.mk ((by rw [hg]; exact (below_size (by repeat (first | (with_reducible first | exact HB.out | apply below_alloc | apply pw_below_drewN | apply below_drew1 | refine below_set ?_ GE170.out) | exact HB.out))) : w.heap.size ≤ gb171)); have n4_ := Aside0.mk ((by rw [hg]; exact (below_size (by repeat (first | (with_reducible first | exact HB.out | apply below_alloc | apply pw_below_drewN | apply below_drew1 | refine below_set ?_ GE170.out) | exact HB.out))) : w.heap.size ≤ gb171)); have n5_ := Aside0.mk ((by rw [hg]; exact Nat.ne_of_lt (blk_lt (g := gb170) (o := .cells #[.int .i64 a0_0,.int .i64 a0_1,.bool a0_2,.bool a0_3] 116 (0,0)) (by (with_reducible repeat (first | refine blk_drewN ?_ _ | refine blk_drew ?_ | refine blk_alloc ?_ _)); exact BK170.out)) : gb170 ≠ gb171)); have n6_ := Aside0.mk ((by rw [hg]; exact Nat.ne_of_gt (blk_lt (g := gb170) (o := .cells #[.int .i64 a0_0,.int .i64 a0_1,.bool a0_2,.bool a0_3] 116 (0,0)) (by (with_reducible repeat (first | refine blk_drewN ?_ _ | refine blk_drew ?_ | refine blk_alloc ?_ _)); exact BK170.out)) : gb171 ≠ gb170)); clear BK170; clear HB; have BK170 := n0_; have HB := n1_; have BK171 := n2_; have GW171 := n3_; have GE171 := n4_; have NB170_171 := n5_; have NB171_170 := n6_; clear n0_ n1_ n2_ n3_ n4_ n5_ n6_; clear hb hbox hg; have hnb24 := NB170_171.out; have hnc24 := NB171_170.out; have hcz25 := pk4 BK170.out; have hcz26 := pk4 BK171.out))
   go_ret
   exact ⟨by first | rfl | (simp [errW_none,errW_some] <;> rfl) | (simp [*,errW_none,errW_some] <;> rfl),by repeat (first | (with_reducible first | exact HB.out | apply below_alloc | apply pw_below_drewN | apply below_drew1 | refine below_set ?_ GE170.out | refine below_set ?_ GE171.out) | exact HB.out)⟩
 ·rw [if_neg c3] at H;have c3b0 : (a0_0 == a1_0) = false := beq_eq_false_iff_ne.mpr c3;have c3b1 : (a0_0 != a1_0) = true := bne_iff_ne.mpr c3;obtain rfl := Option.some.inj H
  simp only [Option.some.injEq,Prod.mk.injEq] at H
  obtain ⟨rfl⟩ := H
  go_enter Try.func85,Try.ntmps85
  go_wp2_with (first | ((with_reducible refine gate_dst (N := 2) rfl ?_); refine box_event ?hg (N := 2) ?hd (cs := #[.int .i64 a0_0,.int .i64 a0_1,.bool a0_2,.bool a0_3]) (t := 116) ?hr ?_; (case hd => rfl); (case hg => rfl); (case hr => first | (go_simp; done) | (go_simp; rfl)); intro gb170 hg w27 hbox hb; have n0_ := Aside0.mk (below_step (by repeat (first | (with_reducible first | exact HB.out | apply below_alloc | apply pw_below_drewN | apply below_drew1) | exact HB.out)) hb); have n1_ := Aside0.mk (hbox); have n2_ := Aside0.mk ((by rw [hg]; exact (below_size (by repeat (first | (with_reducible first | exact HB.out | apply below_alloc | apply pw_below_drewN | apply below_drew1) | exact HB.out))) : w.heap.size ≤ gb170)); have n3_ := Aside0.mk ((by rw [hg]; exact (below_size (by repeat (first | (with_reducible first | exact HB.out | apply below_alloc | apply pw_below_drewN | apply below_drew1) | exact HB.out))) : w.heap.size ≤ gb170)); clear HB; have HB := n0_; have BK170 := n1_; have GW170 := n2_; have GE170 := n3_; clear n0_ n1_ n2_ n3_; clear hb hbox hg) | ((with_reducible refine gate_dst (N := 3) rfl ?_); refine box_event ?hg (N := 3) ?hd (cs := #[.int .i64 a1_0,.int .i64 a1_1,.bool a1_2,.bool a1_3]) (t := 116) ?hr ?_; (case hd => rfl); (case hg => rfl); (case hr => first | (go_simp; done) | (go_simp; rfl)); intro gb171 hg w28 hbox hb; have n0_ := Aside0.mk (blk_below (g := gb170) (o := .cells #[.int .i64 a0_0,.int .i64 a0_1,.bool a0_2,.bool a0_3] 116 (0,0)) (by (with_reducible repeat (first | refine blk_drewN ?_ _ | refine blk_drew ?_ | refine blk_alloc ?_ _)); exact BK170.out) hb); have n1_ := Aside0.mk (below_step (by repeat (first | (with_reducible first | exact HB.out | apply below_alloc | apply pw_below_drewN | apply below_drew1 | refine below_set ?_ GE170.out) | exact HB.out)) hb); have n2_ := Aside0.mk (hbox); have n3_ := Aside0.mk ((by rw [hg]; exact (below_size (by repeat (first | (with_reducible first | exact HB.out | apply below_alloc | apply pw_below_drewN | apply below_drew1 | refine below_set ?_ GE170.out) | exact HB.out))) : w.heap.size ≤ gb171)); have n4_ := Aside0.mk ((by rw [hg]; exact (below_size (by repeat (first | (with_reducible first | exact HB.out | apply below_alloc | apply pw_below_drewN | apply below_drew1 | refine below_set ?_ GE170.out) | exact HB.out))) : w.heap.size ≤ gb171)); have n5_ := Aside0.mk ((by rw [hg]; exact Nat.ne_of_lt (blk_lt (g := gb170) (o := .cells #[.int .i64 a0_0,.int .i64 a0_1,.bool a0_2,.bool a0_3] 116 (0,0)) (by (with_reducible repeat (first | refine blk_drewN ?_ _ | refine blk_drew ?_ | refine blk_alloc ?_ _)); exact BK170.out)) : gb170 ≠ gb171)); have n6_ := Aside0.mk ((by rw [hg]; exact Nat.ne_of_gt (blk_lt (g := gb170) (o := .cells #[.int .i64 a0_0,.int .i64 a0_1,.bool a0_2,.bool a0_3] 116 (0,0)) (by (with_reducible repeat (first | refine blk_drewN ?_ _ | refine blk_drew ?_ | refine blk_alloc ?_ _)); exact BK170.out)) : gb171 ≠ gb170)); clear BK170; clear HB; have BK170 := n0_; have HB := n1_; have BK171 := n2_; have GW171 := n3_; have GE171 := n4_; have NB170_171 := n5_; have NB171_170 := n6_; clear n0_ n1_ n2_ n3_ n4_ n5_ n6_; clear hb hbox hg; have hnb29 := NB170_171.out; have hnc29 := NB171_170.out; have hcz30 := pk4 BK170.out; have hcz31 := pk4 BK171.out))
  go_ret
  exact ⟨by first | rfl | (simp [errW_none,errW_some] <;> rfl) | (simp [*,errW_none,errW_some] <;> rfl),by repeat (first | (with_reducible first | exact HB.out | apply below_alloc | apply pw_below_drewN | apply below_drew1 | refine below_set ?_ GE170.out | refine below_set ?_ GE171.out) | exact HB.out)⟩

/-! ### laws_eqSlotS: function 82 -/
def laws_eqSlotS.l0 : Nat → List (S116) → List (S116) → Int → Option (Bool)
 | 0,_,_,_ => none
 | k + 1,x0,x1,x5 => if x5 < (x0.length : Int) then (if 0 ≤ x5 then (if x5 < (x1.length : Int) then ((laws_eqSlot.f ((rd_T116 x0 x5).f0) ((rd_T116 x0 x5).f1) ((rd_T116 x0 x5).f2) ((rd_T116 x0 x5).f3) ((rd_T116 x1 x5).f0) ((rd_T116 x1 x5).f1) ((rd_T116 x1 x5).f2) ((rd_T116 x1 x5).f3)).bind fun t174 => (if t174 = true then (laws_eqSlotS.l0 k x0 x1 (wrap64 (x5 + 1))) else (some false))) else (none)) else (none)) else (some true)
def laws_eqSlotS.f (k : Nat) (l0 : List (S116)) (l1 : List (S116)) : Option (Bool) := if (l0.length : Int) = (l1.length : Int) then (laws_eqSlotS.l0 k l0 l1 0) else (some false)
theorem laws_eqSlotS.mono_l : ∀ k,(∀ y0 y1 y2,LeO (laws_eqSlotS.l0 k y0 y1 y2) (laws_eqSlotS.l0 (k + 1) y0 y1 y2))
 | 0 => fun _ _ _ r h => by simp [laws_eqSlotS.l0] at h
 | k + 1 => by
  have ih0 := laws_eqSlotS.mono_l k
  ·intro y0 y1 y2
   unfold laws_eqSlotS.l0
   repeat' first
   | (with_reducible exact ih0 _ _ _)
   | (with_reducible exact LeO.refl _)
   | (with_reducible exact LeO.none _)
   | (with_reducible refine LeO.ite ?_ ?_)
   | (with_reducible refine LeO.bind ?_ (fun _ => ?_))
   | exact ih0 _ _ _
   | exact LeO.none _
   | refine LeO.ite ?_ ?_
   | refine LeO.bind ?_ (fun _ => ?_)
theorem laws_eqSlotS.mono : ∀ a0 a1 k,LeO (laws_eqSlotS.f k a0 a1) (laws_eqSlotS.f (k + 1) a0 a1) := by
 intro a0 a1 k
 have ih0 := laws_eqSlotS.mono_l k
 unfold laws_eqSlotS.f
 repeat' first
   | (with_reducible exact ih0 _ _ _)
   | (with_reducible exact LeO.refl _)
   | (with_reducible exact LeO.none _)
   | (with_reducible refine LeO.ite ?_ ?_)
   | (with_reducible refine LeO.bind ?_ (fun _ => ?_))
   | exact ih0 _ _ _
   | exact LeO.none _
   | refine LeO.ite ?_ ?_
   | refine LeO.bind ?_ (fun _ => ?_)
def laws_eqSlotS.T6 : Bool × List (List Nat × List Nat) := (true,[([],[]),([],[]),([0,1],[0,1]),([2],[2]),([],[]),([],[]),([4,5],[4,5]),([6],[6]),([3,7],[3,7]),([8],[8])])
def laws_eqSlotS.B6 : List Nat := [0,0,3,7,0,0,48,112,255,511]
theorem laws_eqSlotS.tab6 : rtab .any (opsOf Try.f82 6) = laws_eqSlotS.T6 := by kernel_rfl
theorem laws_eqSlotS.bits6 : waitsOk laws_eqSlotS.T6.2 laws_eqSlotS.B6 = true := by kernel_rfl
set_option maxHeartbeats 8000000 in
set_option maxRecDepth 100000 in
theorem laws_eqSlotS.calls (k : Nat) (A0 : Option Addr) (c0 : Nat) (l0 : List (S116)) (A1 : Option Addr) (c1 : Nat) (l1 : List (S116)) (r : Bool) (w : World) (hr0 : Kd.C k116 w A0 l0.length l0) (hc0 : l0.length ≤ c0) (hr1 : Kd.C k116 w A1 l1.length l1) (hc1 : l1.length ≤ c1) (h : laws_eqSlotS.f k l0 l1 = some r) :
  Calls Try.prog 82 #[.slice A0 l0.length c0,.slice A1 l1.length c1] w fun e w' => e = .returned (.bool r) ∧ Below w.heap.size w w' := by
 have hu116 := Try.underlying116;have HR0 := Aside0.mk hr0;have HC0 := Aside0.mk hc0;clear hr0 hc0;have HR1 := Aside0.mk hr1;have HC1 := Aside0.mk hc1;clear hr1 hc1;have HB := Aside0.mk (Below.refl w.heap.size w);have H : (if (l0.length : Int) = (l1.length : Int) then (laws_eqSlotS.l0 k l0 l1 0) else (some false)) = some r := h;clear h;by_cases c3 : (l0.length : Int) = (l1.length : Int)
 ·rw [if_pos c3] at H;have c3b0 : ((l0.length : Int) == (l1.length : Int)) = true := beq_iff_eq.mpr c3;have c3b1 : ((l0.length : Int) != (l1.length : Int)) = false := bne_eq_false_iff_eq.mpr c3;(have c3b2 : (l0.length == l1.length) = true := by first | simpa using c3 | (simp at c3 ⊢; omega));clear c3;have H' := Aside0.mk H;clear H
  go_enter Try.func82,Try.ntmps82
  go_wp2
  go_loopg [5] k (fun kq v5 w' => ∃ (x5_1 : Int),v5 = .int .i64 x5_1 ∧ Aside0 (laws_eqSlotS.l0 kq l0 l1 x5_1 = some r) ∧ Aside0 (kq ≤ k) ∧ Aside0 (Below w.heap.size w w'))
  case atStart => exact ⟨(0),(by first | rfl | (simp; done) | (simp [*]; done)),H',⟨Nat.le_refl _⟩,⟨by repeat (first | (with_reducible first | exact HB.out | apply below_alloc | apply pw_below_drewN | apply below_drew1) | exact HB.out)⟩⟩
  case round =>
   clear H';(try clear c1);(try clear p2);(try clear c3);(try clear c3b0);(try clear c3b1);(try clear c3b2);obtain ⟨x5_1,rfl,HA,HK1,HB⟩ := hrel
   cases gk with
   | zero => exact absurd HA.out (by simp [laws_eqSlotS.l0])
   | succ k1 =>
    have H := HA.out;clear HA
    simp only [laws_eqSlotS.l0] at H
    by_cases c4 : x5_1 < (l0.length : Int)
    ·rw [if_pos c4] at H;have c4b0 : decide (x5_1 < (l0.length : Int)) = true := decide_eq_true c4;clear c4;by_cases c5 : 0 ≤ x5_1
     ·rw [if_pos c5] at H;have c5b0 : decide (0 ≤ x5_1) = true := decide_eq_true c5;clear c5;by_cases c6 : x5_1 < (l1.length : Int)
      ·rw [if_pos c6] at H;have c6b0 : decide (x5_1 < (l1.length : Int)) = true := decide_eq_true c6;clear c6;replace H := Option.bind_eq_some_iff.mp H;obtain ⟨t174,A70,H⟩ := H;replace H : (if t174 = true then (laws_eqSlotS.l0 k1 l0 l1 (wrap64 (x5_1 + 1))) else (some false)) = some r := H;have A7 := Aside0.mk A70;clear A70;by_cases c8 : t174 = true
       ·subst c8;(have H1 : (laws_eqSlotS.l0 k1 l0 l1 (wrap64 (x5_1 + 1))) = some r := by rw [if_pos rfl] at H; exact H);clear H;have H := H1;clear H1;have H' := Aside0.mk H;clear H
        try go_wp2
        have p172 : 0 ≤ (x5_1 : Int) := of_decide_eq_true (by first | (with_reducible assumption) | assumption);have q172 : x5_1 < (l0.length : Int) := of_decide_eq_true (by first | (with_reducible assumption) | assumption);obtain ⟨ad172,e172,hx172_0,hx172_1,hx172_2,hx172_3⟩ := at_T116 HR0.out x5_1 p172 q172;have hw172_3 := hx172_3;have hw172_2 := hx172_2;have hw172_1 := hx172_1;have hw172_0 := hx172_0
        cases e172
        replace hx172_0 := (HB.out.cell (World.block_lt_of_cell? w _ hx172_0)).trans hx172_0;replace hx172_1 := (HB.out.cell (World.block_lt_of_cell? w _ hx172_1)).trans hx172_1;replace hx172_2 := (HB.out.cell (World.block_lt_of_cell? w _ hx172_2)).trans hx172_2;replace hx172_3 := (HB.out.cell (World.block_lt_of_cell? w _ hx172_3)).trans hx172_3;replace p172 := eq_true p172;replace q172 := eq_true q172;have p173 : 0 ≤ (x5_1 : Int) := of_decide_eq_true (by first | (with_reducible assumption) | assumption);have q173 : x5_1 < (l1.length : Int) := of_decide_eq_true (by first | (with_reducible assumption) | assumption);obtain ⟨ad173,e173,hx173_0,hx173_1,hx173_2,hx173_3⟩ := at_T116 HR1.out x5_1 p173 q173;have hw173_3 := hx173_3;have hw173_2 := hx173_2;have hw173_1 := hx173_1;have hw173_0 := hx173_0
        cases e173
        replace hx173_0 := (HB.out.cell (World.block_lt_of_cell? w _ hx173_0)).trans hx173_0;replace hx173_1 := (HB.out.cell (World.block_lt_of_cell? w _ hx173_1)).trans hx173_1;replace hx173_2 := (HB.out.cell (World.block_lt_of_cell? w _ hx173_2)).trans hx173_2;replace hx173_3 := (HB.out.cell (World.block_lt_of_cell? w _ hx173_3)).trans hx173_3;replace p173 := eq_true p173;replace q173 := eq_true q173;(have hL_ : ∀ s_ : LT.Later wr,s_.wd.cell? (ad172.add ((x5_1).toNat * 4)) = some (.int .i64 ((rd_T116 l0 x5_1).f0)) ∧ s_.wd.cell? ⟨(ad172.add ((x5_1).toNat * 4)).block,(ad172.add ((x5_1).toNat * 4)).off + 1,none⟩ = some (.int .i64 ((rd_T116 l0 x5_1).f1)) ∧ s_.wd.cell? ⟨(ad172.add ((x5_1).toNat * 4)).block,(ad172.add ((x5_1).toNat * 4)).off + 2,none⟩ = some (.bool ((rd_T116 l0 x5_1).f2)) ∧ s_.wd.cell? ⟨(ad172.add ((x5_1).toNat * 4)).block,(ad172.add ((x5_1).toNat * 4)).off + 3,none⟩ = some (.bool ((rd_T116 l0 x5_1).f3)) ∧ s_.wd.cell? (ad173.add ((x5_1).toNat * 4)) = some (.int .i64 ((rd_T116 l1 x5_1).f0)) ∧ s_.wd.cell? ⟨(ad173.add ((x5_1).toNat * 4)).block,(ad173.add ((x5_1).toNat * 4)).off + 1,none⟩ = some (.int .i64 ((rd_T116 l1 x5_1).f1)) ∧ s_.wd.cell? ⟨(ad173.add ((x5_1).toNat * 4)).block,(ad173.add ((x5_1).toNat * 4)).off + 2,none⟩ = some (.bool ((rd_T116 l1 x5_1).f2)) ∧ s_.wd.cell? ⟨(ad173.add ((x5_1).toNat * 4)).block,(ad173.add ((x5_1).toNat * 4)).off + 3,none⟩ = some (.bool ((rd_T116 l1 x5_1).f3)) := fun s_ => ⟨LT.later_cell (((HB.out.cell (World.block_lt_of_cell? w _ hw172_0)).trans hw172_0)) s_,LT.later_cell (((HB.out.cell (World.block_lt_of_cell? w _ hw172_1)).trans hw172_1)) s_,LT.later_cell (((HB.out.cell (World.block_lt_of_cell? w _ hw172_2)).trans hw172_2)) s_,LT.later_cell (((HB.out.cell (World.block_lt_of_cell? w _ hw172_3)).trans hw172_3)) s_,LT.later_cell (((HB.out.cell (World.block_lt_of_cell? w _ hw173_0)).trans hw173_0)) s_,LT.later_cell (((HB.out.cell (World.block_lt_of_cell? w _ hw173_1)).trans hw173_1)) s_,LT.later_cell (((HB.out.cell (World.block_lt_of_cell? w _ hw173_2)).trans hw173_2)) s_,LT.later_cell (((HB.out.cell (World.block_lt_of_cell? w _ hw173_3)).trans hw173_3)) s_⟩)
        refine LT.wp_region_later (by kernel_rfl) (by kernel_rfl) ?_
        repeat (first | go_big_quiet_step ((first | (go_at_call 85; with_reducible exact LT.Later.call (laws_eqSlot.calls ((rd_T116 l0 x5_1).f0) ((rd_T116 l0 x5_1).f1) ((rd_T116 l0 x5_1).f2) ((rd_T116 l0 x5_1).f3) ((rd_T116 l1 x5_1).f0) ((rd_T116 l1 x5_1).f1) ((rd_T116 l1 x5_1).f2) ((rd_T116 l1 x5_1).f3) true _ A7.out)))) | quiet_step ((first | (go_at_call 85; with_reducible exact LT.Later.call (laws_eqSlot.calls ((rd_T116 l0 x5_1).f0) ((rd_T116 l0 x5_1).f1) ((rd_T116 l0 x5_1).f2) ((rd_T116 l0 x5_1).f3) ((rd_T116 l1 x5_1).f0) ((rd_T116 l1 x5_1).f1) ((rd_T116 l1 x5_1).f2) ((rd_T116 l1 x5_1).f3) true _ A7.out)))))
        refine wpQuiet_nil ?_
        rintro _ ⟨s_,rfl⟩
        have hb_ := s_.h;clear hL_;generalize s_.wd = w9z at hb_ ⊢;clear s_;have n0_ := Aside0.mk (below_step HB.out hb_);clear HB;have HB := n0_;clear n0_;clear hb_
        try go_wp2
        go_roundg k1
        case measure => have := HK1.out; omega
        case rel => exact ⟨(wrap64 (x5_1 + 1)),(by first | rfl | (simp; done) | (simp [*]; done)),H',⟨by have := HK1.out; omega⟩,⟨by repeat (first | (with_reducible first | exact HB.out | apply below_alloc | apply pw_below_drewN | apply below_drew1) | exact HB.out)⟩⟩
       ·replace c8 := Bool.eq_false_iff.mpr c8;subst c8;(have H1 : (some false) = some r := by rw [if_neg (show ¬ (false = true) by decide)] at H; exact H);clear H;have H := H1;clear H1;obtain rfl := Option.some.inj H
        simp only [Option.some.injEq,Prod.mk.injEq] at H
        obtain ⟨rfl⟩ := H
        try go_wp2
        have p172 : 0 ≤ (x5_1 : Int) := of_decide_eq_true (by first | (with_reducible assumption) | assumption);have q172 : x5_1 < (l0.length : Int) := of_decide_eq_true (by first | (with_reducible assumption) | assumption);obtain ⟨ad172,e172,hx172_0,hx172_1,hx172_2,hx172_3⟩ := at_T116 HR0.out x5_1 p172 q172;have hw172_3 := hx172_3;have hw172_2 := hx172_2;have hw172_1 := hx172_1;have hw172_0 := hx172_0
        cases e172
        replace hx172_0 := (HB.out.cell (World.block_lt_of_cell? w _ hx172_0)).trans hx172_0;replace hx172_1 := (HB.out.cell (World.block_lt_of_cell? w _ hx172_1)).trans hx172_1;replace hx172_2 := (HB.out.cell (World.block_lt_of_cell? w _ hx172_2)).trans hx172_2;replace hx172_3 := (HB.out.cell (World.block_lt_of_cell? w _ hx172_3)).trans hx172_3;replace p172 := eq_true p172;replace q172 := eq_true q172;have p173 : 0 ≤ (x5_1 : Int) := of_decide_eq_true (by first | (with_reducible assumption) | assumption);have q173 : x5_1 < (l1.length : Int) := of_decide_eq_true (by first | (with_reducible assumption) | assumption);obtain ⟨ad173,e173,hx173_0,hx173_1,hx173_2,hx173_3⟩ := at_T116 HR1.out x5_1 p173 q173;have hw173_3 := hx173_3;have hw173_2 := hx173_2;have hw173_1 := hx173_1;have hw173_0 := hx173_0
        cases e173
        replace hx173_0 := (HB.out.cell (World.block_lt_of_cell? w _ hx173_0)).trans hx173_0;replace hx173_1 := (HB.out.cell (World.block_lt_of_cell? w _ hx173_1)).trans hx173_1;replace hx173_2 := (HB.out.cell (World.block_lt_of_cell? w _ hx173_2)).trans hx173_2;replace hx173_3 := (HB.out.cell (World.block_lt_of_cell? w _ hx173_3)).trans hx173_3;replace p173 := eq_true p173;replace q173 := eq_true q173;(have hL_ : ∀ s_ : LT.Later wr,s_.wd.cell? (ad172.add ((x5_1).toNat * 4)) = some (.int .i64 ((rd_T116 l0 x5_1).f0)) ∧ s_.wd.cell? ⟨(ad172.add ((x5_1).toNat * 4)).block,(ad172.add ((x5_1).toNat * 4)).off + 1,none⟩ = some (.int .i64 ((rd_T116 l0 x5_1).f1)) ∧ s_.wd.cell? ⟨(ad172.add ((x5_1).toNat * 4)).block,(ad172.add ((x5_1).toNat * 4)).off + 2,none⟩ = some (.bool ((rd_T116 l0 x5_1).f2)) ∧ s_.wd.cell? ⟨(ad172.add ((x5_1).toNat * 4)).block,(ad172.add ((x5_1).toNat * 4)).off + 3,none⟩ = some (.bool ((rd_T116 l0 x5_1).f3)) ∧ s_.wd.cell? (ad173.add ((x5_1).toNat * 4)) = some (.int .i64 ((rd_T116 l1 x5_1).f0)) ∧ s_.wd.cell? ⟨(ad173.add ((x5_1).toNat * 4)).block,(ad173.add ((x5_1).toNat * 4)).off + 1,none⟩ = some (.int .i64 ((rd_T116 l1 x5_1).f1)) ∧ s_.wd.cell? ⟨(ad173.add ((x5_1).toNat * 4)).block,(ad173.add ((x5_1).toNat * 4)).off + 2,none⟩ = some (.bool ((rd_T116 l1 x5_1).f2)) ∧ s_.wd.cell? ⟨(ad173.add ((x5_1).toNat * 4)).block,(ad173.add ((x5_1).toNat * 4)).off + 3,none⟩ = some (.bool ((rd_T116 l1 x5_1).f3)) := fun s_ => ⟨LT.later_cell (((HB.out.cell (World.block_lt_of_cell? w _ hw172_0)).trans hw172_0)) s_,LT.later_cell (((HB.out.cell (World.block_lt_of_cell? w _ hw172_1)).trans hw172_1)) s_,LT.later_cell (((HB.out.cell (World.block_lt_of_cell? w _ hw172_2)).trans hw172_2)) s_,LT.later_cell (((HB.out.cell (World.block_lt_of_cell? w _ hw172_3)).trans hw172_3)) s_,LT.later_cell (((HB.out.cell (World.block_lt_of_cell? w _ hw173_0)).trans hw173_0)) s_,LT.later_cell (((HB.out.cell (World.block_lt_of_cell? w _ hw173_1)).trans hw173_1)) s_,LT.later_cell (((HB.out.cell (World.block_lt_of_cell? w _ hw173_2)).trans hw173_2)) s_,LT.later_cell (((HB.out.cell (World.block_lt_of_cell? w _ hw173_3)).trans hw173_3)) s_⟩)
        refine LT.wp_region_later (by kernel_rfl) (by kernel_rfl) ?_
        repeat (first | go_big_quiet_step ((first | (go_at_call 85; with_reducible exact LT.Later.call (laws_eqSlot.calls ((rd_T116 l0 x5_1).f0) ((rd_T116 l0 x5_1).f1) ((rd_T116 l0 x5_1).f2) ((rd_T116 l0 x5_1).f3) ((rd_T116 l1 x5_1).f0) ((rd_T116 l1 x5_1).f1) ((rd_T116 l1 x5_1).f2) ((rd_T116 l1 x5_1).f3) false _ A7.out)))) | quiet_step ((first | (go_at_call 85; with_reducible exact LT.Later.call (laws_eqSlot.calls ((rd_T116 l0 x5_1).f0) ((rd_T116 l0 x5_1).f1) ((rd_T116 l0 x5_1).f2) ((rd_T116 l0 x5_1).f3) ((rd_T116 l1 x5_1).f0) ((rd_T116 l1 x5_1).f1) ((rd_T116 l1 x5_1).f2) ((rd_T116 l1 x5_1).f3) false _ A7.out)))))
        refine wpQuiet_nil ?_
        rintro _ ⟨s_,rfl⟩
        have hb_ := s_.h;clear hL_;generalize s_.wd = w11z at hb_ ⊢;clear s_;have n0_ := Aside0.mk (below_step HB.out hb_);clear HB;have HB := n0_;clear n0_;clear hb_
        try go_wp2
        go_ret
        exact ⟨by first | rfl | (simp [errW_none,errW_some] <;> rfl) | (simp [*,errW_none,errW_some] <;> rfl),by repeat (first | (with_reducible first | exact HB.out | apply below_alloc | apply pw_below_drewN | apply below_drew1) | exact HB.out)⟩
      ·rw [if_neg c6] at H
       exact absurd H (by simp)
     ·rw [if_neg c5] at H
      exact absurd H (by simp)
    ·rw [if_neg c4] at H;have c4b0 : decide (x5_1 < (l0.length : Int)) = false := decide_eq_false c4;clear c4;obtain rfl := Option.some.inj H
     simp only [Option.some.injEq,Prod.mk.injEq] at H
     obtain ⟨rfl⟩ := H
     go_wp2
     go_ret
     exact ⟨by first | rfl | (simp [errW_none,errW_some] <;> rfl) | (simp [*,errW_none,errW_some] <;> rfl),by repeat (first | (with_reducible first | exact HB.out | apply below_alloc | apply pw_below_drewN | apply below_drew1) | exact HB.out)⟩
 ·rw [if_neg c3] at H;have c3b0 : ((l0.length : Int) == (l1.length : Int)) = false := beq_eq_false_iff_ne.mpr c3;have c3b1 : ((l0.length : Int) != (l1.length : Int)) = true := bne_iff_ne.mpr c3;(have c3b2 : (l0.length == l1.length) = false := by first | simpa using c3 | (simp at c3 ⊢; omega));obtain rfl := Option.some.inj H
  simp only [Option.some.injEq,Prod.mk.injEq] at H
  obtain ⟨rfl⟩ := H
  go_enter Try.func82,Try.ntmps82
  go_wp2
  go_ret
  exact ⟨by first | rfl | (simp [errW_none,errW_some] <;> rfl) | (simp [*,errW_none,errW_some] <;> rfl),by repeat (first | (with_reducible first | exact HB.out | apply below_alloc | apply pw_below_drewN | apply below_drew1) | exact HB.out)⟩

end Go.Proofs.Ytjajfbgijailmaa.XFnExactMemNew
