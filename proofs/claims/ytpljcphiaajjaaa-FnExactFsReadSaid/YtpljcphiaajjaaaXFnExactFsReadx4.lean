-- Written by the kit's printer at the call of wip/tools/xprint.sh (this session's knobs and contracts). Not trusted: Lean checks it.
import Derived.Test.YtpljcphiaajjaaaXFnExactFsReadx0
import Derived.Test.YtpljcphiaajjaaaXFnExactFsReadx3
namespace Go.Proofs.Ytpljcphiaajjaaa.XFnExactFsRead
open Go.RowKit Go.Proofs.YtpljcphiaajjaaaW.PrintWords Go.Proofs.YtpljcphiaajjaaaW.PrintLast Go.Proofs.YtpljcphiaajjaaaW.PrintMore
attribute [local go_sem] max2_int min2_int max_two min_two max_three min_three max_four min_four   -- for this text's walks alone
set_option linter.unusedVariables false
set_option linter.unusedSimpArgs false
abbrev zb4_0 : Array Bool := #[false,false,false,false,false,false,false,false,false,false]
abbrev zb4_1 : Array Bool := #[true,false,false,false,false,false,false,false,false,false]
abbrev zb4_2 : Array Bool := #[true,true,false,false,false,false,false,false,false,false]
abbrev zb4_3 : Array Bool := #[true,true,true,false,false,false,false,false,false,false]
abbrev zb4_4 : Array Bool := #[true,true,true,false,true,false,false,false,false,false]
abbrev zb4_5 : Array Bool := #[true,true,true,false,true,true,false,false,false,false]
abbrev zb4_6 : Array Bool := #[true,true,true,false,true,true,true,false,false,false]
abbrev zb4_7 : Array Bool := #[true,true,true,true,true,true,true,false,false,false]
abbrev zb4_8 : Array Bool := #[true,true,true,true,true,true,true,true,false,false]
abbrev zb4_9 : Array Bool := #[true,true,true,true,true,true,true,true,true,false]
abbrev zb4_10 : Array Bool := #[true,true,true,true,true,true,true,true,true,true]

/-! ### laws_eqInodeS: function 43 -/
def laws_eqInodeS.l0 : Nat → List (S34) → List (S34) → Int → Option (Bool)
 | 0,_,_,_ => none
 | k + 1,x0,x1,x5 => if x5 < (x0.length : Int) then (if 0 ≤ x5 then (if x5 < (x1.length : Int) then ((laws_eqInode.f k ((rd_T34 x0 x5).f0) ((rd_T34 x0 x5).f1) ((rd_T34 x0 x5).f2) ((rd_T34 x0 x5).f3) ((rd_T34 x0 x5).f4) ((rd_T34 x0 x5).f5) ((rd_T34 x0 x5).f6) ((rd_T34 x0 x5).f7) ((rd_T34 x0 x5).f8) ((rd_T34 x1 x5).f0) ((rd_T34 x1 x5).f1) ((rd_T34 x1 x5).f2) ((rd_T34 x1 x5).f3) ((rd_T34 x1 x5).f4) ((rd_T34 x1 x5).f5) ((rd_T34 x1 x5).f6) ((rd_T34 x1 x5).f7) ((rd_T34 x1 x5).f8)).bind fun t158 => (if t158 = true then (laws_eqInodeS.l0 k x0 x1 (wrap64 (x5 + 1))) else (some false))) else (none)) else (none)) else (some true)
def laws_eqInodeS.f (k : Nat) (l0 : List (S34)) (l1 : List (S34)) : Option (Bool) := if (l0.length : Int) = (l1.length : Int) then (laws_eqInodeS.l0 k l0 l1 0) else (some false)
theorem laws_eqInodeS.mono_l : ∀ k,(∀ y0 y1 y2,LeO (laws_eqInodeS.l0 k y0 y1 y2) (laws_eqInodeS.l0 (k + 1) y0 y1 y2))
 | 0 => fun _ _ _ r h => by simp [laws_eqInodeS.l0] at h
 | k + 1 => by
  have ih0 := laws_eqInodeS.mono_l k
  ·intro y0 y1 y2
   unfold laws_eqInodeS.l0
   repeat' first
   | (with_reducible exact ih0 _ _ _)
   | (with_reducible exact laws_eqInode.mono _ _ _ _ _ _ _ _ _ _ _ _ _ _ _ _ _ _ _)
   | (with_reducible exact LeO.refl _)
   | (with_reducible exact LeO.none _)
   | (with_reducible refine LeO.ite ?_ ?_)
   | (with_reducible refine LeO.bind ?_ (fun _ => ?_))
   | exact ih0 _ _ _
   | exact laws_eqInode.mono _ _ _ _ _ _ _ _ _ _ _ _ _ _ _ _ _ _ _
   | exact LeO.none _
   | refine LeO.ite ?_ ?_
   | refine LeO.bind ?_ (fun _ => ?_)
theorem laws_eqInodeS.mono : ∀ a0 a1 k,LeO (laws_eqInodeS.f k a0 a1) (laws_eqInodeS.f (k + 1) a0 a1) := by
 intro a0 a1 k
 have ih0 := laws_eqInodeS.mono_l k
 unfold laws_eqInodeS.f
 repeat' first
   | (with_reducible exact ih0 _ _ _)
   | (with_reducible exact laws_eqInode.mono _ _ _ _ _ _ _ _ _ _ _ _ _ _ _ _ _ _ _)
   | (with_reducible exact LeO.refl _)
   | (with_reducible exact LeO.none _)
   | (with_reducible refine LeO.ite ?_ ?_)
   | (with_reducible refine LeO.bind ?_ (fun _ => ?_))
   | exact ih0 _ _ _
   | exact laws_eqInode.mono _ _ _ _ _ _ _ _ _ _ _ _ _ _ _ _ _ _ _
   | exact LeO.none _
   | refine LeO.ite ?_ ?_
   | refine LeO.bind ?_ (fun _ => ?_)
def laws_eqInodeS.T6 : Bool × List (List Nat × List Nat) := (true,[([],[]),([],[]),([0,1],[0,1]),([2],[2]),([],[]),([],[]),([4,5],[4,5]),([6],[6]),([3,7],[3,7]),([8],[8])])
def laws_eqInodeS.B6 : List Nat := [0,0,3,7,0,0,48,112,255,511]
theorem laws_eqInodeS.tab6 : rtab .any (opsOf Try.f43 6) = laws_eqInodeS.T6 := by kernel_rfl
theorem laws_eqInodeS.bits6 : waitsOk laws_eqInodeS.T6.2 laws_eqInodeS.B6 = true := by kernel_rfl
set_option maxHeartbeats 8000000 in
set_option maxRecDepth 100000 in
theorem laws_eqInodeS.calls (k : Nat) (A0 : Option Addr) (c0 : Nat) (l0 : List (S34)) (A1 : Option Addr) (c1 : Nat) (l1 : List (S34)) (r : Bool) (w : World) (hr0 : Kd.C k34 w A0 l0.length l0) (hc0 : l0.length ≤ c0) (hr1 : Kd.C k34 w A1 l1.length l1) (hc1 : l1.length ≤ c1) (h : laws_eqInodeS.f k l0 l1 = some r) :
  Calls Try.prog 43 #[.slice A0 l0.length c0,.slice A1 l1.length c1] w fun e w' => e = .returned (.bool r) ∧ Below w.heap.size w w' := by
 have hu34 := Try.underlying34;have HR0 := Aside0.mk hr0;have HC0 := Aside0.mk hc0;clear hr0 hc0;have HR1 := Aside0.mk hr1;have HC1 := Aside0.mk hc1;clear hr1 hc1;have HB := Aside0.mk (Below.refl w.heap.size w);have H : (if (l0.length : Int) = (l1.length : Int) then (laws_eqInodeS.l0 k l0 l1 0) else (some false)) = some r := h;clear h;by_cases c3 : (l0.length : Int) = (l1.length : Int)
 ·rw [if_pos c3] at H;have c3b0 : ((l0.length : Int) == (l1.length : Int)) = true := beq_iff_eq.mpr c3;have c3b1 : ((l0.length : Int) != (l1.length : Int)) = false := bne_eq_false_iff_eq.mpr c3;(have c3b2 : (l0.length == l1.length) = true := by first | simpa using c3 | (simp at c3 ⊢; omega));clear c3;have H' := Aside0.mk H;clear H
  go_enter Try.func43,Try.ntmps43
  go_wp2
  go_loopg [5] k (fun kq v5 w' => ∃ (x5_1 : Int),v5 = .int .i64 x5_1 ∧ Aside0 (laws_eqInodeS.l0 kq l0 l1 x5_1 = some r) ∧ Aside0 (kq ≤ k) ∧ Aside0 (Below w.heap.size w w'))
  case atStart => exact ⟨(0),(by first | rfl | (simp; done) | (simp [*]; done)),H',⟨Nat.le_refl _⟩,⟨by repeat (first | (with_reducible first | exact HB.out | apply yA | apply yN | apply yD) | exact HB.out)⟩⟩
  case round =>
   clear H';(try clear c1);(try clear p2);(try clear c3);(try clear c3b0);(try clear c3b1);(try clear c3b2);obtain ⟨x5_1,rfl,HA,HK1,HB⟩ := hrel
   cases gk with
   | zero => exact absurd HA.out (by simp [laws_eqInodeS.l0])
   | succ k1 =>
    have H := HA.out;clear HA
    simp only [laws_eqInodeS.l0] at H
    by_cases c4 : x5_1 < (l0.length : Int)
    ·rw [if_pos c4] at H;have c4b0 : decide (x5_1 < (l0.length : Int)) = true := decide_eq_true c4;clear c4;by_cases c5 : 0 ≤ x5_1
     ·rw [if_pos c5] at H;have c5b0 : decide (0 ≤ x5_1) = true := decide_eq_true c5;clear c5;by_cases c6 : x5_1 < (l1.length : Int)
      ·rw [if_pos c6] at H;have c6b0 : decide (x5_1 < (l1.length : Int)) = true := decide_eq_true c6;clear c6;replace H := Option.bind_eq_some_iff.mp H;obtain ⟨t158,A70,H⟩ := H;replace H : (if t158 = true then (laws_eqInodeS.l0 k1 l0 l1 (wrap64 (x5_1 + 1))) else (some false)) = some r := H;have A7 := Aside0.mk A70;clear A70;by_cases c8 : t158 = true
       ·subst c8;(have H1 : (laws_eqInodeS.l0 k1 l0 l1 (wrap64 (x5_1 + 1))) = some r := by rw [if_pos rfl] at H; exact H);clear H;have H := H1;clear H1;have H' := Aside0.mk H;clear H
        try go_wp2
        have n0_ := Aside0.mk (yD HB.out);clear HB;have HB := n0_;clear n0_;have p156 : 0 ≤ (x5_1 : Int) := od_ (by first | (with_reducible assumption) | assumption);have q156 : x5_1 < (l0.length : Int) := od_ (by first | (with_reducible assumption) | assumption);obtain ⟨ad156,A156_8,c156_8,e156,hx156_0,hx156_1,hx156_2,hx156_3,hx156_4,hx156_5,hx156_6,hx156_7,hx156_8,hl156_8,hi156_8⟩ := at_T34 HR0.out x5_1 p156 q156;have hw156_8 := hx156_8;have hw156_7 := hx156_7;have hw156_6 := hx156_6;have hw156_5 := hx156_5;have hw156_4 := hx156_4;have hw156_3 := hx156_3;have hw156_2 := hx156_2;have hw156_1 := hx156_1;have hw156_0 := hx156_0
        cases e156
        replace hx156_0 := bc_ HB hx156_0;replace hx156_1 := bc_ HB hx156_1;replace hx156_2 := bc_ HB hx156_2;replace hx156_3 := bc_ HB hx156_3;replace hx156_4 := bc_ HB hx156_4;replace hx156_5 := bc_ HB hx156_5;replace hx156_6 := bc_ HB hx156_6;replace hx156_7 := bc_ HB hx156_7;replace hx156_8 := bc_ HB hx156_8;have HR156_8 := Aside0.mk hi156_8;have HC156_8 := Aside0.mk hl156_8;clear hi156_8 hl156_8;replace p156 := eq_true p156;replace q156 := eq_true q156;have p157 : 0 ≤ (x5_1 : Int) := od_ (by first | (with_reducible assumption) | assumption);have q157 : x5_1 < (l1.length : Int) := od_ (by first | (with_reducible assumption) | assumption);obtain ⟨ad157,A157_8,c157_8,e157,hx157_0,hx157_1,hx157_2,hx157_3,hx157_4,hx157_5,hx157_6,hx157_7,hx157_8,hl157_8,hi157_8⟩ := at_T34 HR1.out x5_1 p157 q157;have hw157_8 := hx157_8;have hw157_7 := hx157_7;have hw157_6 := hx157_6;have hw157_5 := hx157_5;have hw157_4 := hx157_4;have hw157_3 := hx157_3;have hw157_2 := hx157_2;have hw157_1 := hx157_1;have hw157_0 := hx157_0
        cases e157
        replace hx157_0 := bc_ HB hx157_0;replace hx157_1 := bc_ HB hx157_1;replace hx157_2 := bc_ HB hx157_2;replace hx157_3 := bc_ HB hx157_3;replace hx157_4 := bc_ HB hx157_4;replace hx157_5 := bc_ HB hx157_5;replace hx157_6 := bc_ HB hx157_6;replace hx157_7 := bc_ HB hx157_7;replace hx157_8 := bc_ HB hx157_8;have HR157_8 := Aside0.mk hi157_8;have HC157_8 := Aside0.mk hl157_8;clear hi157_8 hl157_8;replace p157 := eq_true p157;replace q157 := eq_true q157
        refine start_ (n := 10) (S := fun w' => w'.cell? (ad156.add ((x5_1).toNat * 9)) = some (.int .i64 ((rd_T34 l0 x5_1).f0)) ∧ w'.cell? ⟨(ad156.add ((x5_1).toNat * 9)).block,(ad156.add ((x5_1).toNat * 9)).off + 1,none⟩ = some (.int .i64 ((rd_T34 l0 x5_1).f1)) ∧ w'.cell? ⟨(ad156.add ((x5_1).toNat * 9)).block,(ad156.add ((x5_1).toNat * 9)).off + 2,none⟩ = some (.int .i64 ((rd_T34 l0 x5_1).f2)) ∧ w'.cell? ⟨(ad156.add ((x5_1).toNat * 9)).block,(ad156.add ((x5_1).toNat * 9)).off + 3,none⟩ = some (.int .i64 ((rd_T34 l0 x5_1).f3)) ∧ w'.cell? ⟨(ad156.add ((x5_1).toNat * 9)).block,(ad156.add ((x5_1).toNat * 9)).off + 4,none⟩ = some (.int .i64 ((rd_T34 l0 x5_1).f4)) ∧ w'.cell? ⟨(ad156.add ((x5_1).toNat * 9)).block,(ad156.add ((x5_1).toNat * 9)).off + 5,none⟩ = some (.int .i64 ((rd_T34 l0 x5_1).f5)) ∧ w'.cell? ⟨(ad156.add ((x5_1).toNat * 9)).block,(ad156.add ((x5_1).toNat * 9)).off + 6,none⟩ = some (.bool ((rd_T34 l0 x5_1).f6)) ∧ w'.cell? ⟨(ad156.add ((x5_1).toNat * 9)).block,(ad156.add ((x5_1).toNat * 9)).off + 7,none⟩ = some (.string ((rd_T34 l0 x5_1).f7)) ∧ w'.cell? ⟨(ad156.add ((x5_1).toNat * 9)).block,(ad156.add ((x5_1).toNat * 9)).off + 8,none⟩ = some (.slice A156_8 ((rd_T34 l0 x5_1).f8).length c156_8) ∧ w'.cell? (ad157.add ((x5_1).toNat * 9)) = some (.int .i64 ((rd_T34 l1 x5_1).f0)) ∧ w'.cell? ⟨(ad157.add ((x5_1).toNat * 9)).block,(ad157.add ((x5_1).toNat * 9)).off + 1,none⟩ = some (.int .i64 ((rd_T34 l1 x5_1).f1)) ∧ w'.cell? ⟨(ad157.add ((x5_1).toNat * 9)).block,(ad157.add ((x5_1).toNat * 9)).off + 2,none⟩ = some (.int .i64 ((rd_T34 l1 x5_1).f2)) ∧ w'.cell? ⟨(ad157.add ((x5_1).toNat * 9)).block,(ad157.add ((x5_1).toNat * 9)).off + 3,none⟩ = some (.int .i64 ((rd_T34 l1 x5_1).f3)) ∧ w'.cell? ⟨(ad157.add ((x5_1).toNat * 9)).block,(ad157.add ((x5_1).toNat * 9)).off + 4,none⟩ = some (.int .i64 ((rd_T34 l1 x5_1).f4)) ∧ w'.cell? ⟨(ad157.add ((x5_1).toNat * 9)).block,(ad157.add ((x5_1).toNat * 9)).off + 5,none⟩ = some (.int .i64 ((rd_T34 l1 x5_1).f5)) ∧ w'.cell? ⟨(ad157.add ((x5_1).toNat * 9)).block,(ad157.add ((x5_1).toNat * 9)).off + 6,none⟩ = some (.bool ((rd_T34 l1 x5_1).f6)) ∧ w'.cell? ⟨(ad157.add ((x5_1).toNat * 9)).block,(ad157.add ((x5_1).toNat * 9)).off + 7,none⟩ = some (.string ((rd_T34 l1 x5_1).f7)) ∧ w'.cell? ⟨(ad157.add ((x5_1).toNat * 9)).block,(ad157.add ((x5_1).toNat * 9)).off + 8,none⟩ = some (.slice A157_8 ((rd_T34 l1 x5_1).f8).length c157_8)) (ds := []) zb4_0 (by kernel_rfl) rfl rfl ⟨((HB.out.cell (World.block_lt_of_cell? w _ hw156_0)).trans hw156_0),((HB.out.cell (World.block_lt_of_cell? w _ hw156_1)).trans hw156_1),((HB.out.cell (World.block_lt_of_cell? w _ hw156_2)).trans hw156_2),((HB.out.cell (World.block_lt_of_cell? w _ hw156_3)).trans hw156_3),((HB.out.cell (World.block_lt_of_cell? w _ hw156_4)).trans hw156_4),((HB.out.cell (World.block_lt_of_cell? w _ hw156_5)).trans hw156_5),((HB.out.cell (World.block_lt_of_cell? w _ hw156_6)).trans hw156_6),((HB.out.cell (World.block_lt_of_cell? w _ hw156_7)).trans hw156_7),((HB.out.cell (World.block_lt_of_cell? w _ hw156_8)).trans hw156_8),((HB.out.cell (World.block_lt_of_cell? w _ hw157_0)).trans hw157_0),((HB.out.cell (World.block_lt_of_cell? w _ hw157_1)).trans hw157_1),((HB.out.cell (World.block_lt_of_cell? w _ hw157_2)).trans hw157_2),((HB.out.cell (World.block_lt_of_cell? w _ hw157_3)).trans hw157_3),((HB.out.cell (World.block_lt_of_cell? w _ hw157_4)).trans hw157_4),((HB.out.cell (World.block_lt_of_cell? w _ hw157_5)).trans hw157_5),((HB.out.cell (World.block_lt_of_cell? w _ hw157_6)).trans hw157_6),((HB.out.cell (World.block_lt_of_cell? w _ hw157_7)).trans hw157_7),((HB.out.cell (World.block_lt_of_cell? w _ hw157_8)).trans hw157_8)⟩ (fun hHeld => ?_); refine with_tabW laws_eqInodeS.tab6 laws_eqInodeS.bits6 (fun HT_ HW_ => ?_)
        generalize wr.drew = w9 at HB HR156_8 HR157_8 hx156_0 hx156_1 hx156_2 hx156_3 hx156_4 hx156_5 hx156_6 hx156_7 hx156_8 hx157_0 hx157_1 hx157_2 hx157_3 hx157_4 hx157_5 hx157_6 hx157_7 hx157_8 hHeld ⊢
        refine pure_ (i := 0) (N := some 17) (v := ?_) (a' := ?_) zb4_1 rfl rfl (any_of HT_.out (by kernel_rfl)) (fun _ _ _ h => h) (Or.inl ⟨by rfl,?_⟩) ?_ ?_
        rotate_left
        ·intro w'
         go_simp
         with_reducible rfl
        rotate_left
        ·simp only [Act.put,List.setIfInBounds_toArray,List.set_cons_zero,List.set_cons_succ,i64_w,i32_w]
         rfl
        refine pure_ (i := 1) (N := some 18) (v := ?_) (a' := ?_) zb4_2 rfl rfl (any_of HT_.out (by kernel_rfl)) (fun _ _ _ h => h) (Or.inl ⟨by rfl,?_⟩) ?_ ?_
        rotate_left
        ·intro w'
         go_simp
         with_reducible rfl
        rotate_left
        ·simp only [Act.put,List.setIfInBounds_toArray,List.set_cons_zero,List.set_cons_succ,i64_w,i32_w]
         rfl
        refine pure_ (i := 2) (N := some 19) (v := ?_) (a' := ?_) zb4_3 rfl rfl (any_of HT_.out (by kernel_rfl)) (fun _ _ _ h => h) (Or.inl ⟨by rfl,?_⟩) ?_ ?_
        rotate_left
        ·intro w'
         go_simp
         with_reducible rfl
        rotate_left
        ·simp only [Act.put,List.setIfInBounds_toArray,List.set_cons_zero,List.set_cons_succ,i64_w,i32_w]
         rfl
        refine pure_ (i := 4) (N := some 21) (v := ?_) (a' := ?_) zb4_4 rfl rfl (any_of HT_.out (by kernel_rfl)) (fun _ _ _ h => h) (Or.inl ⟨by rfl,?_⟩) ?_ ?_
        rotate_left
        ·intro w'
         go_simp
         with_reducible rfl
        rotate_left
        ·simp only [Act.put,List.setIfInBounds_toArray,List.set_cons_zero,List.set_cons_succ,i64_w,i32_w]
         rfl
        refine pure_ (i := 5) (N := some 22) (v := ?_) (a' := ?_) zb4_5 rfl rfl (any_of HT_.out (by kernel_rfl)) (fun _ _ _ h => h) (Or.inl ⟨by rfl,?_⟩) ?_ ?_
        rotate_left
        ·intro w'
         go_simp
         with_reducible rfl
        rotate_left
        ·simp only [Act.put,List.setIfInBounds_toArray,List.set_cons_zero,List.set_cons_succ,i64_w,i32_w]
         rfl
        refine pure_ (i := 6) (N := some 23) (v := ?_) (a' := ?_) zb4_6 rfl rfl (any_of HT_.out (by kernel_rfl)) (fun _ _ _ h => h) (Or.inl ⟨by rfl,?_⟩) ?_ ?_
        rotate_left
        ·intro w'
         go_simp
         with_reducible rfl
        rotate_left
        ·simp only [Act.put,List.setIfInBounds_toArray,List.set_cons_zero,List.set_cons_succ,i64_w,i32_w]
         rfl
        refine take_ (i := 3) (N := some 20) (v := ?_) (a' := ?_) zb4_7 rfl rfl (take_ofW HT_.out HW_.out (by kernel_rfl)) (fun _ _ _ h => h) (Or.inl ⟨by rfl,?_⟩) hHeld ?_ ?_
        rotate_left
        ·rintro w' ⟨s0,s1,s2,s3,s4,s5,s6,s7,s8,s9,s10,s11,s12,s13,s14,s15,s16,s17⟩
         go_simp
         with_reducible rfl
        rotate_left
        ·simp only [Act.put,List.setIfInBounds_toArray,List.set_cons_zero,List.set_cons_succ,i64_w,i32_w]
         rfl
        refine take_ (i := 7) (N := some 24) (v := ?_) (a' := ?_) zb4_8 rfl rfl (take_ofW HT_.out HW_.out (by kernel_rfl)) (fun _ _ _ h => h) (Or.inl ⟨by rfl,?_⟩) hHeld ?_ ?_
        rotate_left
        ·rintro w' ⟨s0,s1,s2,s3,s4,s5,s6,s7,s8,s9,s10,s11,s12,s13,s14,s15,s16,s17⟩
         go_simp
         with_reducible rfl
        rotate_left
        ·simp only [Act.put,List.setIfInBounds_toArray,List.set_cons_zero,List.set_cons_succ,i64_w,i32_w]
         rfl
        refine one_ (i := 8) (N := some 25) zb4_9 rfl rfl (one_of HT_.out (by kernel_rfl)) (by decide) (fun K hK => ?_)
        refine goes_ Try.func68 (by kernel_rfl) rfl #[.agg #[.int .i64 ((rd_T34 l0 x5_1).f0),.int .i64 ((rd_T34 l0 x5_1).f1),.int .i64 ((rd_T34 l0 x5_1).f2),.int .i64 ((rd_T34 l0 x5_1).f3),.int .i64 ((rd_T34 l0 x5_1).f4),.int .i64 ((rd_T34 l0 x5_1).f5),.bool ((rd_T34 l0 x5_1).f6),.string ((rd_T34 l0 x5_1).f7),.slice A156_8 ((rd_T34 l0 x5_1).f8).length c156_8],.agg #[.int .i64 ((rd_T34 l1 x5_1).f0),.int .i64 ((rd_T34 l1 x5_1).f1),.int .i64 ((rd_T34 l1 x5_1).f2),.int .i64 ((rd_T34 l1 x5_1).f3),.int .i64 ((rd_T34 l1 x5_1).f4),.int .i64 ((rd_T34 l1 x5_1).f5),.bool ((rd_T34 l1 x5_1).f6),.string ((rd_T34 l1 x5_1).f7),.slice A157_8 ((rd_T34 l1 x5_1).f8).length c157_8]] (by rfl) rfl rfl (by (try simp only [List.map_toArray,List.map_cons,List.map_nil]); first | done | rfl | (simp only [List.length_drop,List.length_take]; rfl)) ?_
        with_reducible refine (laws_eqInode.calls k1 ((rd_T34 l0 x5_1).f0) ((rd_T34 l0 x5_1).f1) ((rd_T34 l0 x5_1).f2) ((rd_T34 l0 x5_1).f3) ((rd_T34 l0 x5_1).f4) ((rd_T34 l0 x5_1).f5) ((rd_T34 l0 x5_1).f6) ((rd_T34 l0 x5_1).f7) _ _ ((rd_T34 l0 x5_1).f8) ((rd_T34 l1 x5_1).f0) ((rd_T34 l1 x5_1).f1) ((rd_T34 l1 x5_1).f2) ((rd_T34 l1 x5_1).f3) ((rd_T34 l1 x5_1).f4) ((rd_T34 l1 x5_1).f5) ((rd_T34 l1 x5_1).f6) ((rd_T34 l1 x5_1).f7) _ _ ((rd_T34 l1 x5_1).f8) true _ ?side1 ?side2 ?side3 ?side4 A7.out).mono ?_
        (case side1 => repeat (first | exact (Kd.C_below HR156_8.out HB.out) | (with_reducible refine Kd.C_alloc ?_ _) | (with_reducible refine Kd.C_drewN ?_ _) | (with_reducible refine Kd.C_drew ?_)));(case side2 => exact HC156_8.out);(case side3 => repeat (first | exact (Kd.C_below HR157_8.out HB.out) | (with_reducible refine Kd.C_alloc ?_ _) | (with_reducible refine Kd.C_drewN ?_ _) | (with_reducible refine Kd.C_drew ?_)));(case side4 => exact HC157_8.out)
        rintro e w10 ⟨rfl,hb⟩
        refine ⟨_,rfl,?_⟩
        have n0_ := Aside0.mk (below_step (by repeat (first | (with_reducible first | exact HB.out | apply yA | apply yN | apply yD) | exact HB.out)) hb);clear HB;have HB := n0_;clear n0_;(try clear hb);(try clear hb2);(try clear hk);(try clear hi)
        refine hK.out _ _ ⟨((HB.out.cell (World.block_lt_of_cell? w _ hw156_0)).trans hw156_0),((HB.out.cell (World.block_lt_of_cell? w _ hw156_1)).trans hw156_1),((HB.out.cell (World.block_lt_of_cell? w _ hw156_2)).trans hw156_2),((HB.out.cell (World.block_lt_of_cell? w _ hw156_3)).trans hw156_3),((HB.out.cell (World.block_lt_of_cell? w _ hw156_4)).trans hw156_4),((HB.out.cell (World.block_lt_of_cell? w _ hw156_5)).trans hw156_5),((HB.out.cell (World.block_lt_of_cell? w _ hw156_6)).trans hw156_6),((HB.out.cell (World.block_lt_of_cell? w _ hw156_7)).trans hw156_7),((HB.out.cell (World.block_lt_of_cell? w _ hw156_8)).trans hw156_8),((HB.out.cell (World.block_lt_of_cell? w _ hw157_0)).trans hw157_0),((HB.out.cell (World.block_lt_of_cell? w _ hw157_1)).trans hw157_1),((HB.out.cell (World.block_lt_of_cell? w _ hw157_2)).trans hw157_2),((HB.out.cell (World.block_lt_of_cell? w _ hw157_3)).trans hw157_3),((HB.out.cell (World.block_lt_of_cell? w _ hw157_4)).trans hw157_4),((HB.out.cell (World.block_lt_of_cell? w _ hw157_5)).trans hw157_5),((HB.out.cell (World.block_lt_of_cell? w _ hw157_6)).trans hw157_6),((HB.out.cell (World.block_lt_of_cell? w _ hw157_7)).trans hw157_7),((HB.out.cell (World.block_lt_of_cell? w _ hw157_8)).trans hw157_8)⟩ (fun hHeld => ?_)
        clear hK K
        refine norm_ (a' := ?_) ?_ ?_
        rotate_left
        ·show Act.put _ (some 25) _ = _
         simp only [Act.put,List.setIfInBounds_toArray,List.set_cons_zero,List.set_cons_succ,i64_w,i32_w]
         rfl
        refine pure_ (i := 9) (N := some 26) (v := ?_) (a' := ?_) zb4_10 rfl rfl (any_of HT_.out (by kernel_rfl)) (fun _ _ _ h => h) (Or.inl ⟨by rfl,?_⟩) ?_ ?_
        rotate_left
        ·intro w'
         go_simp
         with_reducible rfl
        rotate_left
        ·simp only [Act.put,List.setIfInBounds_toArray,List.set_cons_zero,List.set_cons_succ,i64_w,i32_w]
         rfl
        refine done_ (done_of HT_.out (by kernel_rfl)) ?_
        try go_wp2
        go_roundg k1
        case measure => have := HK1.out; omega
        case rel => exact ⟨(wrap64 (x5_1 + 1)),(by first | rfl | (simp; done) | (simp [*]; done)),H',⟨by have := HK1.out; omega⟩,⟨by repeat (first | (with_reducible first | exact HB.out | apply yA | apply yN | apply yD) | exact HB.out)⟩⟩
       ·replace c8 := Bool.eq_false_iff.mpr c8;subst c8;(have H1 : (some false) = some r := by rw [if_neg (show ¬ (false = true) by decide)] at H; exact H);clear H;have H := H1;clear H1;obtain rfl := Option.some.inj H
        simp only [Option.some.injEq,Prod.mk.injEq] at H
        obtain ⟨rfl⟩ := H
        try go_wp2
        have n0_ := Aside0.mk (yD HB.out);clear HB;have HB := n0_;clear n0_;have p156 : 0 ≤ (x5_1 : Int) := od_ (by first | (with_reducible assumption) | assumption);have q156 : x5_1 < (l0.length : Int) := od_ (by first | (with_reducible assumption) | assumption);obtain ⟨ad156,A156_8,c156_8,e156,hx156_0,hx156_1,hx156_2,hx156_3,hx156_4,hx156_5,hx156_6,hx156_7,hx156_8,hl156_8,hi156_8⟩ := at_T34 HR0.out x5_1 p156 q156;have hw156_8 := hx156_8;have hw156_7 := hx156_7;have hw156_6 := hx156_6;have hw156_5 := hx156_5;have hw156_4 := hx156_4;have hw156_3 := hx156_3;have hw156_2 := hx156_2;have hw156_1 := hx156_1;have hw156_0 := hx156_0
        cases e156
        replace hx156_0 := bc_ HB hx156_0;replace hx156_1 := bc_ HB hx156_1;replace hx156_2 := bc_ HB hx156_2;replace hx156_3 := bc_ HB hx156_3;replace hx156_4 := bc_ HB hx156_4;replace hx156_5 := bc_ HB hx156_5;replace hx156_6 := bc_ HB hx156_6;replace hx156_7 := bc_ HB hx156_7;replace hx156_8 := bc_ HB hx156_8;have HR156_8 := Aside0.mk hi156_8;have HC156_8 := Aside0.mk hl156_8;clear hi156_8 hl156_8;replace p156 := eq_true p156;replace q156 := eq_true q156;have p157 : 0 ≤ (x5_1 : Int) := od_ (by first | (with_reducible assumption) | assumption);have q157 : x5_1 < (l1.length : Int) := od_ (by first | (with_reducible assumption) | assumption);obtain ⟨ad157,A157_8,c157_8,e157,hx157_0,hx157_1,hx157_2,hx157_3,hx157_4,hx157_5,hx157_6,hx157_7,hx157_8,hl157_8,hi157_8⟩ := at_T34 HR1.out x5_1 p157 q157;have hw157_8 := hx157_8;have hw157_7 := hx157_7;have hw157_6 := hx157_6;have hw157_5 := hx157_5;have hw157_4 := hx157_4;have hw157_3 := hx157_3;have hw157_2 := hx157_2;have hw157_1 := hx157_1;have hw157_0 := hx157_0
        cases e157
        replace hx157_0 := bc_ HB hx157_0;replace hx157_1 := bc_ HB hx157_1;replace hx157_2 := bc_ HB hx157_2;replace hx157_3 := bc_ HB hx157_3;replace hx157_4 := bc_ HB hx157_4;replace hx157_5 := bc_ HB hx157_5;replace hx157_6 := bc_ HB hx157_6;replace hx157_7 := bc_ HB hx157_7;replace hx157_8 := bc_ HB hx157_8;have HR157_8 := Aside0.mk hi157_8;have HC157_8 := Aside0.mk hl157_8;clear hi157_8 hl157_8;replace p157 := eq_true p157;replace q157 := eq_true q157
        refine start_ (n := 10) (S := fun w' => w'.cell? (ad156.add ((x5_1).toNat * 9)) = some (.int .i64 ((rd_T34 l0 x5_1).f0)) ∧ w'.cell? ⟨(ad156.add ((x5_1).toNat * 9)).block,(ad156.add ((x5_1).toNat * 9)).off + 1,none⟩ = some (.int .i64 ((rd_T34 l0 x5_1).f1)) ∧ w'.cell? ⟨(ad156.add ((x5_1).toNat * 9)).block,(ad156.add ((x5_1).toNat * 9)).off + 2,none⟩ = some (.int .i64 ((rd_T34 l0 x5_1).f2)) ∧ w'.cell? ⟨(ad156.add ((x5_1).toNat * 9)).block,(ad156.add ((x5_1).toNat * 9)).off + 3,none⟩ = some (.int .i64 ((rd_T34 l0 x5_1).f3)) ∧ w'.cell? ⟨(ad156.add ((x5_1).toNat * 9)).block,(ad156.add ((x5_1).toNat * 9)).off + 4,none⟩ = some (.int .i64 ((rd_T34 l0 x5_1).f4)) ∧ w'.cell? ⟨(ad156.add ((x5_1).toNat * 9)).block,(ad156.add ((x5_1).toNat * 9)).off + 5,none⟩ = some (.int .i64 ((rd_T34 l0 x5_1).f5)) ∧ w'.cell? ⟨(ad156.add ((x5_1).toNat * 9)).block,(ad156.add ((x5_1).toNat * 9)).off + 6,none⟩ = some (.bool ((rd_T34 l0 x5_1).f6)) ∧ w'.cell? ⟨(ad156.add ((x5_1).toNat * 9)).block,(ad156.add ((x5_1).toNat * 9)).off + 7,none⟩ = some (.string ((rd_T34 l0 x5_1).f7)) ∧ w'.cell? ⟨(ad156.add ((x5_1).toNat * 9)).block,(ad156.add ((x5_1).toNat * 9)).off + 8,none⟩ = some (.slice A156_8 ((rd_T34 l0 x5_1).f8).length c156_8) ∧ w'.cell? (ad157.add ((x5_1).toNat * 9)) = some (.int .i64 ((rd_T34 l1 x5_1).f0)) ∧ w'.cell? ⟨(ad157.add ((x5_1).toNat * 9)).block,(ad157.add ((x5_1).toNat * 9)).off + 1,none⟩ = some (.int .i64 ((rd_T34 l1 x5_1).f1)) ∧ w'.cell? ⟨(ad157.add ((x5_1).toNat * 9)).block,(ad157.add ((x5_1).toNat * 9)).off + 2,none⟩ = some (.int .i64 ((rd_T34 l1 x5_1).f2)) ∧ w'.cell? ⟨(ad157.add ((x5_1).toNat * 9)).block,(ad157.add ((x5_1).toNat * 9)).off + 3,none⟩ = some (.int .i64 ((rd_T34 l1 x5_1).f3)) ∧ w'.cell? ⟨(ad157.add ((x5_1).toNat * 9)).block,(ad157.add ((x5_1).toNat * 9)).off + 4,none⟩ = some (.int .i64 ((rd_T34 l1 x5_1).f4)) ∧ w'.cell? ⟨(ad157.add ((x5_1).toNat * 9)).block,(ad157.add ((x5_1).toNat * 9)).off + 5,none⟩ = some (.int .i64 ((rd_T34 l1 x5_1).f5)) ∧ w'.cell? ⟨(ad157.add ((x5_1).toNat * 9)).block,(ad157.add ((x5_1).toNat * 9)).off + 6,none⟩ = some (.bool ((rd_T34 l1 x5_1).f6)) ∧ w'.cell? ⟨(ad157.add ((x5_1).toNat * 9)).block,(ad157.add ((x5_1).toNat * 9)).off + 7,none⟩ = some (.string ((rd_T34 l1 x5_1).f7)) ∧ w'.cell? ⟨(ad157.add ((x5_1).toNat * 9)).block,(ad157.add ((x5_1).toNat * 9)).off + 8,none⟩ = some (.slice A157_8 ((rd_T34 l1 x5_1).f8).length c157_8)) (ds := []) zb4_0 (by kernel_rfl) rfl rfl ⟨((HB.out.cell (World.block_lt_of_cell? w _ hw156_0)).trans hw156_0),((HB.out.cell (World.block_lt_of_cell? w _ hw156_1)).trans hw156_1),((HB.out.cell (World.block_lt_of_cell? w _ hw156_2)).trans hw156_2),((HB.out.cell (World.block_lt_of_cell? w _ hw156_3)).trans hw156_3),((HB.out.cell (World.block_lt_of_cell? w _ hw156_4)).trans hw156_4),((HB.out.cell (World.block_lt_of_cell? w _ hw156_5)).trans hw156_5),((HB.out.cell (World.block_lt_of_cell? w _ hw156_6)).trans hw156_6),((HB.out.cell (World.block_lt_of_cell? w _ hw156_7)).trans hw156_7),((HB.out.cell (World.block_lt_of_cell? w _ hw156_8)).trans hw156_8),((HB.out.cell (World.block_lt_of_cell? w _ hw157_0)).trans hw157_0),((HB.out.cell (World.block_lt_of_cell? w _ hw157_1)).trans hw157_1),((HB.out.cell (World.block_lt_of_cell? w _ hw157_2)).trans hw157_2),((HB.out.cell (World.block_lt_of_cell? w _ hw157_3)).trans hw157_3),((HB.out.cell (World.block_lt_of_cell? w _ hw157_4)).trans hw157_4),((HB.out.cell (World.block_lt_of_cell? w _ hw157_5)).trans hw157_5),((HB.out.cell (World.block_lt_of_cell? w _ hw157_6)).trans hw157_6),((HB.out.cell (World.block_lt_of_cell? w _ hw157_7)).trans hw157_7),((HB.out.cell (World.block_lt_of_cell? w _ hw157_8)).trans hw157_8)⟩ (fun hHeld => ?_); refine with_tabW laws_eqInodeS.tab6 laws_eqInodeS.bits6 (fun HT_ HW_ => ?_)
        generalize wr.drew = w11 at HB HR156_8 HR157_8 hx156_0 hx156_1 hx156_2 hx156_3 hx156_4 hx156_5 hx156_6 hx156_7 hx156_8 hx157_0 hx157_1 hx157_2 hx157_3 hx157_4 hx157_5 hx157_6 hx157_7 hx157_8 hHeld ⊢
        refine pure_ (i := 0) (N := some 17) (v := ?_) (a' := ?_) zb4_1 rfl rfl (any_of HT_.out (by kernel_rfl)) (fun _ _ _ h => h) (Or.inl ⟨by rfl,?_⟩) ?_ ?_
        rotate_left
        ·intro w'
         go_simp
         with_reducible rfl
        rotate_left
        ·simp only [Act.put,List.setIfInBounds_toArray,List.set_cons_zero,List.set_cons_succ,i64_w,i32_w]
         rfl
        refine pure_ (i := 1) (N := some 18) (v := ?_) (a' := ?_) zb4_2 rfl rfl (any_of HT_.out (by kernel_rfl)) (fun _ _ _ h => h) (Or.inl ⟨by rfl,?_⟩) ?_ ?_
        rotate_left
        ·intro w'
         go_simp
         with_reducible rfl
        rotate_left
        ·simp only [Act.put,List.setIfInBounds_toArray,List.set_cons_zero,List.set_cons_succ,i64_w,i32_w]
         rfl
        refine pure_ (i := 2) (N := some 19) (v := ?_) (a' := ?_) zb4_3 rfl rfl (any_of HT_.out (by kernel_rfl)) (fun _ _ _ h => h) (Or.inl ⟨by rfl,?_⟩) ?_ ?_
        rotate_left
        ·intro w'
         go_simp
         with_reducible rfl
        rotate_left
        ·simp only [Act.put,List.setIfInBounds_toArray,List.set_cons_zero,List.set_cons_succ,i64_w,i32_w]
         rfl
        refine pure_ (i := 4) (N := some 21) (v := ?_) (a' := ?_) zb4_4 rfl rfl (any_of HT_.out (by kernel_rfl)) (fun _ _ _ h => h) (Or.inl ⟨by rfl,?_⟩) ?_ ?_
        rotate_left
        ·intro w'
         go_simp
         with_reducible rfl
        rotate_left
        ·simp only [Act.put,List.setIfInBounds_toArray,List.set_cons_zero,List.set_cons_succ,i64_w,i32_w]
         rfl
        refine pure_ (i := 5) (N := some 22) (v := ?_) (a' := ?_) zb4_5 rfl rfl (any_of HT_.out (by kernel_rfl)) (fun _ _ _ h => h) (Or.inl ⟨by rfl,?_⟩) ?_ ?_
        rotate_left
        ·intro w'
         go_simp
         with_reducible rfl
        rotate_left
        ·simp only [Act.put,List.setIfInBounds_toArray,List.set_cons_zero,List.set_cons_succ,i64_w,i32_w]
         rfl
        refine pure_ (i := 6) (N := some 23) (v := ?_) (a' := ?_) zb4_6 rfl rfl (any_of HT_.out (by kernel_rfl)) (fun _ _ _ h => h) (Or.inl ⟨by rfl,?_⟩) ?_ ?_
        rotate_left
        ·intro w'
         go_simp
         with_reducible rfl
        rotate_left
        ·simp only [Act.put,List.setIfInBounds_toArray,List.set_cons_zero,List.set_cons_succ,i64_w,i32_w]
         rfl
        refine take_ (i := 3) (N := some 20) (v := ?_) (a' := ?_) zb4_7 rfl rfl (take_ofW HT_.out HW_.out (by kernel_rfl)) (fun _ _ _ h => h) (Or.inl ⟨by rfl,?_⟩) hHeld ?_ ?_
        rotate_left
        ·rintro w' ⟨s0,s1,s2,s3,s4,s5,s6,s7,s8,s9,s10,s11,s12,s13,s14,s15,s16,s17⟩
         go_simp
         with_reducible rfl
        rotate_left
        ·simp only [Act.put,List.setIfInBounds_toArray,List.set_cons_zero,List.set_cons_succ,i64_w,i32_w]
         rfl
        refine take_ (i := 7) (N := some 24) (v := ?_) (a' := ?_) zb4_8 rfl rfl (take_ofW HT_.out HW_.out (by kernel_rfl)) (fun _ _ _ h => h) (Or.inl ⟨by rfl,?_⟩) hHeld ?_ ?_
        rotate_left
        ·rintro w' ⟨s0,s1,s2,s3,s4,s5,s6,s7,s8,s9,s10,s11,s12,s13,s14,s15,s16,s17⟩
         go_simp
         with_reducible rfl
        rotate_left
        ·simp only [Act.put,List.setIfInBounds_toArray,List.set_cons_zero,List.set_cons_succ,i64_w,i32_w]
         rfl
        refine one_ (i := 8) (N := some 25) zb4_9 rfl rfl (one_of HT_.out (by kernel_rfl)) (by decide) (fun K hK => ?_)
        refine goes_ Try.func68 (by kernel_rfl) rfl #[.agg #[.int .i64 ((rd_T34 l0 x5_1).f0),.int .i64 ((rd_T34 l0 x5_1).f1),.int .i64 ((rd_T34 l0 x5_1).f2),.int .i64 ((rd_T34 l0 x5_1).f3),.int .i64 ((rd_T34 l0 x5_1).f4),.int .i64 ((rd_T34 l0 x5_1).f5),.bool ((rd_T34 l0 x5_1).f6),.string ((rd_T34 l0 x5_1).f7),.slice A156_8 ((rd_T34 l0 x5_1).f8).length c156_8],.agg #[.int .i64 ((rd_T34 l1 x5_1).f0),.int .i64 ((rd_T34 l1 x5_1).f1),.int .i64 ((rd_T34 l1 x5_1).f2),.int .i64 ((rd_T34 l1 x5_1).f3),.int .i64 ((rd_T34 l1 x5_1).f4),.int .i64 ((rd_T34 l1 x5_1).f5),.bool ((rd_T34 l1 x5_1).f6),.string ((rd_T34 l1 x5_1).f7),.slice A157_8 ((rd_T34 l1 x5_1).f8).length c157_8]] (by rfl) rfl rfl (by (try simp only [List.map_toArray,List.map_cons,List.map_nil]); first | done | rfl | (simp only [List.length_drop,List.length_take]; rfl)) ?_
        with_reducible refine (laws_eqInode.calls k1 ((rd_T34 l0 x5_1).f0) ((rd_T34 l0 x5_1).f1) ((rd_T34 l0 x5_1).f2) ((rd_T34 l0 x5_1).f3) ((rd_T34 l0 x5_1).f4) ((rd_T34 l0 x5_1).f5) ((rd_T34 l0 x5_1).f6) ((rd_T34 l0 x5_1).f7) _ _ ((rd_T34 l0 x5_1).f8) ((rd_T34 l1 x5_1).f0) ((rd_T34 l1 x5_1).f1) ((rd_T34 l1 x5_1).f2) ((rd_T34 l1 x5_1).f3) ((rd_T34 l1 x5_1).f4) ((rd_T34 l1 x5_1).f5) ((rd_T34 l1 x5_1).f6) ((rd_T34 l1 x5_1).f7) _ _ ((rd_T34 l1 x5_1).f8) false _ ?side1 ?side2 ?side3 ?side4 A7.out).mono ?_
        (case side1 => repeat (first | exact (Kd.C_below HR156_8.out HB.out) | (with_reducible refine Kd.C_alloc ?_ _) | (with_reducible refine Kd.C_drewN ?_ _) | (with_reducible refine Kd.C_drew ?_)));(case side2 => exact HC156_8.out);(case side3 => repeat (first | exact (Kd.C_below HR157_8.out HB.out) | (with_reducible refine Kd.C_alloc ?_ _) | (with_reducible refine Kd.C_drewN ?_ _) | (with_reducible refine Kd.C_drew ?_)));(case side4 => exact HC157_8.out)
        rintro e w12 ⟨rfl,hb⟩
        refine ⟨_,rfl,?_⟩
        have n0_ := Aside0.mk (below_step (by repeat (first | (with_reducible first | exact HB.out | apply yA | apply yN | apply yD) | exact HB.out)) hb);clear HB;have HB := n0_;clear n0_;(try clear hb);(try clear hb2);(try clear hk);(try clear hi)
        refine hK.out _ _ ⟨((HB.out.cell (World.block_lt_of_cell? w _ hw156_0)).trans hw156_0),((HB.out.cell (World.block_lt_of_cell? w _ hw156_1)).trans hw156_1),((HB.out.cell (World.block_lt_of_cell? w _ hw156_2)).trans hw156_2),((HB.out.cell (World.block_lt_of_cell? w _ hw156_3)).trans hw156_3),((HB.out.cell (World.block_lt_of_cell? w _ hw156_4)).trans hw156_4),((HB.out.cell (World.block_lt_of_cell? w _ hw156_5)).trans hw156_5),((HB.out.cell (World.block_lt_of_cell? w _ hw156_6)).trans hw156_6),((HB.out.cell (World.block_lt_of_cell? w _ hw156_7)).trans hw156_7),((HB.out.cell (World.block_lt_of_cell? w _ hw156_8)).trans hw156_8),((HB.out.cell (World.block_lt_of_cell? w _ hw157_0)).trans hw157_0),((HB.out.cell (World.block_lt_of_cell? w _ hw157_1)).trans hw157_1),((HB.out.cell (World.block_lt_of_cell? w _ hw157_2)).trans hw157_2),((HB.out.cell (World.block_lt_of_cell? w _ hw157_3)).trans hw157_3),((HB.out.cell (World.block_lt_of_cell? w _ hw157_4)).trans hw157_4),((HB.out.cell (World.block_lt_of_cell? w _ hw157_5)).trans hw157_5),((HB.out.cell (World.block_lt_of_cell? w _ hw157_6)).trans hw157_6),((HB.out.cell (World.block_lt_of_cell? w _ hw157_7)).trans hw157_7),((HB.out.cell (World.block_lt_of_cell? w _ hw157_8)).trans hw157_8)⟩ (fun hHeld => ?_)
        clear hK K
        refine norm_ (a' := ?_) ?_ ?_
        rotate_left
        ·show Act.put _ (some 25) _ = _
         simp only [Act.put,List.setIfInBounds_toArray,List.set_cons_zero,List.set_cons_succ,i64_w,i32_w]
         rfl
        refine pure_ (i := 9) (N := some 26) (v := ?_) (a' := ?_) zb4_10 rfl rfl (any_of HT_.out (by kernel_rfl)) (fun _ _ _ h => h) (Or.inl ⟨by rfl,?_⟩) ?_ ?_
        rotate_left
        ·intro w'
         go_simp
         with_reducible rfl
        rotate_left
        ·simp only [Act.put,List.setIfInBounds_toArray,List.set_cons_zero,List.set_cons_succ,i64_w,i32_w]
         rfl
        refine done_ (done_of HT_.out (by kernel_rfl)) ?_
        try go_wp2
        go_ret
        exact ⟨by first | rfl | (simp [errW_none,errW_some] <;> rfl) | (simp [*,errW_none,errW_some] <;> rfl),by repeat (first | (with_reducible first | exact HB.out | apply yA | apply yN | apply yD) | exact HB.out)⟩
      ·rw [if_neg c6] at H
       exact absurd H (by simp)
     ·rw [if_neg c5] at H
      exact absurd H (by simp)
    ·rw [if_neg c4] at H;have c4b0 : decide (x5_1 < (l0.length : Int)) = false := decide_eq_false c4;clear c4;obtain rfl := Option.some.inj H
     simp only [Option.some.injEq,Prod.mk.injEq] at H
     obtain ⟨rfl⟩ := H
     go_wp2
     go_ret
     exact ⟨by first | rfl | (simp [errW_none,errW_some] <;> rfl) | (simp [*,errW_none,errW_some] <;> rfl),by repeat (first | (with_reducible first | exact HB.out | apply yA | apply yN | apply yD) | exact HB.out)⟩
 ·rw [if_neg c3] at H;have c3b0 : ((l0.length : Int) == (l1.length : Int)) = false := beq_eq_false_iff_ne.mpr c3;have c3b1 : ((l0.length : Int) != (l1.length : Int)) = true := bne_iff_ne.mpr c3;(have c3b2 : (l0.length == l1.length) = false := by first | simpa using c3 | (simp at c3 ⊢; omega));obtain rfl := Option.some.inj H
  simp only [Option.some.injEq,Prod.mk.injEq] at H
  obtain ⟨rfl⟩ := H
  go_enter Try.func43,Try.ntmps43
  go_wp2
  go_ret
  exact ⟨by first | rfl | (simp [errW_none,errW_some] <;> rfl) | (simp [*,errW_none,errW_some] <;> rfl),by repeat (first | (with_reducible first | exact HB.out | apply yA | apply yN | apply yD) | exact HB.out)⟩

/-! ### laws_eqFs: function 18 -/
def laws_eqFs.f (k : Nat) (l0_0 : List (S34)) (l1_0 : List (S34)) : Option (Bool) := (laws_eqInodeS.f k l0_0 l1_0).bind fun t161 => (if t161 = true then (some true) else (some false))
theorem laws_eqFs.mono : ∀ a0 a1 k,LeO (laws_eqFs.f k a0 a1) (laws_eqFs.f (k + 1) a0 a1) := by
 intro a0 a1 k
 unfold laws_eqFs.f
 repeat' first
   | (with_reducible exact laws_eqInodeS.mono _ _ _)
   | (with_reducible exact LeO.refl _)
   | (with_reducible exact LeO.none _)
   | (with_reducible refine LeO.ite ?_ ?_)
   | (with_reducible refine LeO.bind ?_ (fun _ => ?_))
   | exact laws_eqInodeS.mono _ _ _
   | exact LeO.none _
   | refine LeO.ite ?_ ?_
   | refine LeO.bind ?_ (fun _ => ?_)
set_option maxHeartbeats 8000000 in
set_option maxRecDepth 100000 in
theorem laws_eqFs.calls (k : Nat) (A0_0 : Option Addr) (c0_0 : Nat) (l0_0 : List (S34)) (A1_0 : Option Addr) (c1_0 : Nat) (l1_0 : List (S34)) (r : Bool) (w : World) (hr0_0 : Kd.C k34 w A0_0 l0_0.length l0_0) (hc0_0 : l0_0.length ≤ c0_0) (hr1_0 : Kd.C k34 w A1_0 l1_0.length l1_0) (hc1_0 : l1_0.length ≤ c1_0) (h : laws_eqFs.f k l0_0 l1_0 = some r) :
  Calls Try.prog 18 #[.agg #[.slice A0_0 l0_0.length c0_0],.agg #[.slice A1_0 l1_0.length c1_0]] w fun e w' => e = .returned (.bool r) ∧ Below w.heap.size w w' := by
 have hu27 := Try.underlying27;have HR0_0 := Aside0.mk hr0_0;have HC0_0 := Aside0.mk hc0_0;clear hr0_0 hc0_0;have HR1_0 := Aside0.mk hr1_0;have HC1_0 := Aside0.mk hc1_0;clear hr1_0 hc1_0;have HB := Aside0.mk (Below.refl w.heap.size w);have H : ((laws_eqInodeS.f k l0_0 l1_0).bind fun t161 => (if t161 = true then (some true) else (some false))) = some r := h;clear h;replace H := Option.bind_eq_some_iff.mp H;obtain ⟨t161,A30,H⟩ := H;replace H : (if t161 = true then (some true) else (some false)) = some r := H;have A3 := Aside0.mk A30;clear A30;by_cases c4 : t161 = true
 ·subst c4;(have H1 : (some true) = some r := by rw [if_pos rfl] at H; exact H);clear H;have H := H1;clear H1;obtain rfl := Option.some.inj H
  simp only [Option.some.injEq,Prod.mk.injEq] at H
  obtain ⟨rfl⟩ := H
  go_enter Try.func18,Try.ntmps18
  go_wp2_with (first | ((with_reducible refine gate_dst (N := 2) rfl ?_); refine box_event ?hg (N := 2) ?hd (cs := #[.slice A0_0 l0_0.length c0_0]) (t := 27) ?hr ?_; (case hd => rfl); (case hg => rfl); (case hr => first | (go_simp; done) | (go_simp; rfl)); intro gb159 hg w5 hbox hb; have n0_ := Aside0.mk (below_step (by repeat (first | (with_reducible first | exact HB.out | apply yA | apply yN | apply yD) | exact HB.out)) hb); have n1_ := Aside0.mk (hbox); have n2_ := Aside0.mk ((by rw [hg]; exact (below_size (by repeat (first | (with_reducible first | exact HB.out | apply yA | apply yN | apply yD) | exact HB.out))) : w.heap.size ≤ gb159)); have n3_ := Aside0.mk ((by rw [hg]; exact (below_size (by repeat (first | (with_reducible first | exact HB.out | apply yA | apply yN | apply yD) | exact HB.out))) : w.heap.size ≤ gb159)); clear HB; have HB := n0_; have BK159 := n1_; have GW159 := n2_; have GE159 := n3_; clear n0_ n1_ n2_ n3_; clear hb hbox hg) | ((with_reducible refine gate_dst (N := 3) rfl ?_); refine box_event ?hg (N := 3) ?hd (cs := #[.slice A1_0 l1_0.length c1_0]) (t := 27) ?hr ?_; (case hd => rfl); (case hg => rfl); (case hr => first | (go_simp; done) | (go_simp; rfl)); intro gb160 hg w6 hbox hb; have n0_ := Aside0.mk (blk_below (g := gb159) (o := .cells #[.slice A0_0 l0_0.length c0_0] 27 (0,0)) (by (with_reducible repeat (first | refine zN ?_ _ | refine zD ?_ | refine zA ?_ _)); exact BK159.out) hb); have n1_ := Aside0.mk (below_step (by repeat (first | (with_reducible first | exact HB.out | apply yA | apply yN | apply yD | refine yS ?_ GE159.out) | exact HB.out)) hb); have n2_ := Aside0.mk (hbox); have n3_ := Aside0.mk ((by rw [hg]; exact (below_size (by repeat (first | (with_reducible first | exact HB.out | apply yA | apply yN | apply yD | refine yS ?_ GE159.out) | exact HB.out))) : w.heap.size ≤ gb160)); have n4_ := Aside0.mk ((by rw [hg]; exact (below_size (by repeat (first | (with_reducible first | exact HB.out | apply yA | apply yN | apply yD | refine yS ?_ GE159.out) | exact HB.out))) : w.heap.size ≤ gb160)); have n5_ := Aside0.mk ((by rw [hg]; exact Nat.ne_of_lt (blk_lt (g := gb159) (o := .cells #[.slice A0_0 l0_0.length c0_0] 27 (0,0)) (by (with_reducible repeat (first | refine zN ?_ _ | refine zD ?_ | refine zA ?_ _)); exact BK159.out)) : gb159 ≠ gb160)); have n6_ := Aside0.mk ((by rw [hg]; exact Nat.ne_of_gt (blk_lt (g := gb159) (o := .cells #[.slice A0_0 l0_0.length c0_0] 27 (0,0)) (by (with_reducible repeat (first | refine zN ?_ _ | refine zD ?_ | refine zA ?_ _)); exact BK159.out)) : gb160 ≠ gb159)); clear BK159; clear HB; have BK159 := n0_; have HB := n1_; have BK160 := n2_; have GW160 := n3_; have GE160 := n4_; have NB159_160 := n5_; have NB160_159 := n6_; clear n0_ n1_ n2_ n3_ n4_ n5_ n6_; clear hb hbox hg; have hnb7 := NB159_160.out; have hnc7 := NB160_159.out; have hcz8 := pk1 BK159.out; have hcz9 := pk1 BK160.out) | ((with_reducible refine gate_callee (f := 43) rfl ?_); refine goesL_ (some 9) rfl rfl Try.func43 (by kernel_rfl) rfl #[.slice A0_0 l0_0.length c0_0,.slice A1_0 l1_0.length c1_0] rfl (by (try simp only [List.map_toArray,List.map_cons,List.map_nil]); first | done | rfl | (simp only [List.length_drop,List.length_take]; rfl)) ?_; (with_reducible refine (laws_eqInodeS.calls k _ _ l0_0 _ _ l1_0 true _ ?side1 ?side2 ?side3 ?side4 A3.out).mono ?_); (case side1 => repeat (first | exact (Kd.C_below HR0_0.out HB.out) | (with_reducible refine Kd.C_alloc ?_ _) | (with_reducible refine Kd.C_drewN ?_ _) | (with_reducible refine Kd.C_drew ?_))); (case side2 => exact HC0_0.out); (case side3 => repeat (first | exact (Kd.C_below HR1_0.out HB.out) | (with_reducible refine Kd.C_alloc ?_ _) | (with_reducible refine Kd.C_drewN ?_ _) | (with_reducible refine Kd.C_drew ?_))); (case side4 => exact HC1_0.out); rintro e w10 ⟨rfl,hb⟩; refine ⟨_,rfl,?_⟩; have n0_ := Aside0.mk (blk_below (g := gb159) (o := .cells #[.slice A0_0 l0_0.length c0_0] 27 (0,0)) (by (with_reducible repeat (first | refine zN ?_ _ | refine zD ?_ | refine zA ?_ _)); exact BK159.out) hb); have n1_ := Aside0.mk (blk_below (g := gb160) (o := .cells #[.slice A1_0 l1_0.length c1_0] 27 (0,0)) (by (with_reducible repeat (first | refine zN ?_ _ | refine zD ?_ | refine zA ?_ _)); exact BK160.out) hb); have n2_ := Aside0.mk (below_step (by repeat (first | (with_reducible first | exact HB.out | apply yA | apply yN | apply yD | refine yS ?_ GE159.out | refine yS ?_ GE160.out) | exact HB.out)) hb); clear BK159; clear BK160; clear HB; have BK159 := n0_; have BK160 := n1_; have HB := n2_; clear n0_ n1_ n2_; (try clear hb); (try clear hb2); (try clear hk); (try clear hi)))
  go_ret
  exact ⟨by first | rfl | (simp [errW_none,errW_some] <;> rfl) | (simp [*,errW_none,errW_some] <;> rfl),by repeat (first | (with_reducible first | exact HB.out | apply yA | apply yN | apply yD | refine yS ?_ GE159.out | refine yS ?_ GE160.out) | exact HB.out)⟩
 ·replace c4 := Bool.eq_false_iff.mpr c4;subst c4;(have H1 : (some false) = some r := by rw [if_neg (show ¬ (false = true) by decide)] at H; exact H);clear H;have H := H1;clear H1;obtain rfl := Option.some.inj H
  simp only [Option.some.injEq,Prod.mk.injEq] at H
  obtain ⟨rfl⟩ := H
  go_enter Try.func18,Try.ntmps18
  go_wp2_with (first | ((with_reducible refine gate_dst (N := 2) rfl ?_); refine box_event ?hg (N := 2) ?hd (cs := #[.slice A0_0 l0_0.length c0_0]) (t := 27) ?hr ?_; (case hd => rfl); (case hg => rfl); (case hr => first | (go_simp; done) | (go_simp; rfl)); intro gb159 hg w11 hbox hb; have n0_ := Aside0.mk (below_step (by repeat (first | (with_reducible first | exact HB.out | apply yA | apply yN | apply yD) | exact HB.out)) hb); have n1_ := Aside0.mk (hbox); have n2_ := Aside0.mk ((by rw [hg]; exact (below_size (by repeat (first | (with_reducible first | exact HB.out | apply yA | apply yN | apply yD) | exact HB.out))) : w.heap.size ≤ gb159)); have n3_ := Aside0.mk ((by rw [hg]; exact (below_size (by repeat (first | (with_reducible first | exact HB.out | apply yA | apply yN | apply yD) | exact HB.out))) : w.heap.size ≤ gb159)); clear HB; have HB := n0_; have BK159 := n1_; have GW159 := n2_; have GE159 := n3_; clear n0_ n1_ n2_ n3_; clear hb hbox hg) | ((with_reducible refine gate_dst (N := 3) rfl ?_); refine box_event ?hg (N := 3) ?hd (cs := #[.slice A1_0 l1_0.length c1_0]) (t := 27) ?hr ?_; (case hd => rfl); (case hg => rfl); (case hr => first | (go_simp; done) | (go_simp; rfl)); intro gb160 hg w12 hbox hb; have n0_ := Aside0.mk (blk_below (g := gb159) (o := .cells #[.slice A0_0 l0_0.length c0_0] 27 (0,0)) (by (with_reducible repeat (first | refine zN ?_ _ | refine zD ?_ | refine zA ?_ _)); exact BK159.out) hb); have n1_ := Aside0.mk (below_step (by repeat (first | (with_reducible first | exact HB.out | apply yA | apply yN | apply yD | refine yS ?_ GE159.out) | exact HB.out)) hb); have n2_ := Aside0.mk (hbox); have n3_ := Aside0.mk ((by rw [hg]; exact (below_size (by repeat (first | (with_reducible first | exact HB.out | apply yA | apply yN | apply yD | refine yS ?_ GE159.out) | exact HB.out))) : w.heap.size ≤ gb160)); have n4_ := Aside0.mk ((by rw [hg]; exact (below_size (by repeat (first | (with_reducible first | exact HB.out | apply yA | apply yN | apply yD | refine yS ?_ GE159.out) | exact HB.out))) : w.heap.size ≤ gb160)); have n5_ := Aside0.mk ((by rw [hg]; exact Nat.ne_of_lt (blk_lt (g := gb159) (o := .cells #[.slice A0_0 l0_0.length c0_0] 27 (0,0)) (by (with_reducible repeat (first | refine zN ?_ _ | refine zD ?_ | refine zA ?_ _)); exact BK159.out)) : gb159 ≠ gb160)); have n6_ := Aside0.mk ((by rw [hg]; exact Nat.ne_of_gt (blk_lt (g := gb159) (o := .cells #[.slice A0_0 l0_0.length c0_0] 27 (0,0)) (by (with_reducible repeat (first | refine zN ?_ _ | refine zD ?_ | refine zA ?_ _)); exact BK159.out)) : gb160 ≠ gb159)); clear BK159; clear HB; have BK159 := n0_; have HB := n1_; have BK160 := n2_; have GW160 := n3_; have GE160 := n4_; have NB159_160 := n5_; have NB160_159 := n6_; clear n0_ n1_ n2_ n3_ n4_ n5_ n6_; clear hb hbox hg; have hnb13 := NB159_160.out; have hnc13 := NB160_159.out; have hcz14 := pk1 BK159.out; have hcz15 := pk1 BK160.out) | ((with_reducible refine gate_callee (f := 43) rfl ?_); refine goesL_ (some 9) rfl rfl Try.func43 (by kernel_rfl) rfl #[.slice A0_0 l0_0.length c0_0,.slice A1_0 l1_0.length c1_0] rfl (by (try simp only [List.map_toArray,List.map_cons,List.map_nil]); first | done | rfl | (simp only [List.length_drop,List.length_take]; rfl)) ?_; (with_reducible refine (laws_eqInodeS.calls k _ _ l0_0 _ _ l1_0 false _ ?side1 ?side2 ?side3 ?side4 A3.out).mono ?_); (case side1 => repeat (first | exact (Kd.C_below HR0_0.out HB.out) | (with_reducible refine Kd.C_alloc ?_ _) | (with_reducible refine Kd.C_drewN ?_ _) | (with_reducible refine Kd.C_drew ?_))); (case side2 => exact HC0_0.out); (case side3 => repeat (first | exact (Kd.C_below HR1_0.out HB.out) | (with_reducible refine Kd.C_alloc ?_ _) | (with_reducible refine Kd.C_drewN ?_ _) | (with_reducible refine Kd.C_drew ?_))); (case side4 => exact HC1_0.out); rintro e w16 ⟨rfl,hb⟩; refine ⟨_,rfl,?_⟩; have n0_ := Aside0.mk (blk_below (g := gb159) (o := .cells #[.slice A0_0 l0_0.length c0_0] 27 (0,0)) (by (with_reducible repeat (first | refine zN ?_ _ | refine zD ?_ | refine zA ?_ _)); exact BK159.out) hb); have n1_ := Aside0.mk (blk_below (g := gb160) (o := .cells #[.slice A1_0 l1_0.length c1_0] 27 (0,0)) (by (with_reducible repeat (first | refine zN ?_ _ | refine zD ?_ | refine zA ?_ _)); exact BK160.out) hb); have n2_ := Aside0.mk (below_step (by repeat (first | (with_reducible first | exact HB.out | apply yA | apply yN | apply yD | refine yS ?_ GE159.out | refine yS ?_ GE160.out) | exact HB.out)) hb); clear BK159; clear BK160; clear HB; have BK159 := n0_; have BK160 := n1_; have HB := n2_; clear n0_ n1_ n2_; (try clear hb); (try clear hb2); (try clear hk); (try clear hi)))
  go_ret
  exact ⟨by first | rfl | (simp [errW_none,errW_some] <;> rfl) | (simp [*,errW_none,errW_some] <;> rfl),by repeat (first | (with_reducible first | exact HB.out | apply yA | apply yN | apply yD | refine yS ?_ GE159.out | refine yS ?_ GE160.out) | exact HB.out)⟩

/-! ### spec_l6In: function 35 -/
def spec_l6In.f (a0 : Int) (a1 : Int) (a2 : Int) : Option (Bool) := if a0 ≥ a1 then (some (decide (a0 ≤ a2))) else (some false)
set_option maxHeartbeats 8000000 in
set_option maxRecDepth 100000 in
theorem spec_l6In.calls (a0 : Int) (a1 : Int) (a2 : Int) (r : Bool) (w : World) (h : spec_l6In.f a0 a1 a2 = some r) :
  Calls Try.prog 35 #[.int .i64 a0,.int .i64 a1,.int .i64 a2] w fun e w' => e = .returned (.bool r) ∧ Drawn0 w w' := by
 have H : (if a0 ≥ a1 then (some (decide (a0 ≤ a2))) else (some false)) = some r := h;clear h;by_cases c4 : a0 ≥ a1
 ·rw [if_pos c4] at H;have c4b0 : decide (a1 ≤ a0) = true := decide_eq_true c4;clear c4;obtain rfl := Option.some.inj H
  simp only [Option.some.injEq,Prod.mk.injEq] at H
  obtain ⟨rfl⟩ := H
  go_enter Try.func35,Try.ntmps35
  go_wp2
  go_ret
  exact ⟨by first | rfl | (simp; done) | (simp [*]; done),by repeat (first | exact Drawn0.refl _ | apply Drawn0.step)⟩
 ·rw [if_neg c4] at H;have c4b0 : decide (a1 ≤ a0) = false := decide_eq_false c4;clear c4;obtain rfl := Option.some.inj H
  simp only [Option.some.injEq,Prod.mk.injEq] at H
  obtain ⟨rfl⟩ := H
  go_enter Try.func35,Try.ntmps35
  go_wp2
  go_ret
  exact ⟨by first | rfl | (simp; done) | (simp [*]; done),by repeat (first | exact Drawn0.refl _ | apply Drawn0.step)⟩

/-! ### spec_l5User: function 34 -/
def spec_l5User.f (a0 : Int) : Option (Bool) := (spec_l6In.f a0 0 9).bind fun t162 => (some t162)
set_option maxHeartbeats 8000000 in
set_option maxRecDepth 100000 in
theorem spec_l5User.calls (a0 : Int) (r : Bool) (w : World) (h : spec_l5User.f a0 = some r) :
  Calls Try.prog 34 #[.int .i64 a0] w fun e w' => e = .returned (.bool r) ∧ Drawn0 w w' := by
 have H : ((spec_l6In.f a0 0 9).bind fun t162 => (some t162)) = some r := h;clear h;replace H := Option.bind_eq_some_iff.mp H;obtain ⟨t162,A20,H⟩ := H;replace H : (some t162) = some r := H;have A2 := Aside0.mk A20;clear A20;obtain rfl := Option.some.inj H
 simp only [Option.some.injEq,Prod.mk.injEq] at H
 obtain ⟨rfl⟩ := H
 go_enter Try.func34,Try.ntmps34
 go_wp2_with (first | ((with_reducible refine gate_callee (f := 35) rfl ?_); refine goesL_ (some 4) rfl rfl Try.func35 (by kernel_rfl) rfl #[.int .i64 a0,.int .i64 0,.int .i64 9] rfl (by (try simp only [List.map_toArray,List.map_cons,List.map_nil]); first | done | rfl | (simp only [List.length_drop,List.length_take]; rfl)) ?_; (with_reducible refine (spec_l6In.calls a0 0 9 t162 _ A2.out).mono ?_); rintro e w' ⟨rfl,⟨nd,rfl⟩⟩; refine ⟨_,rfl,?_⟩))
 go_ret
 exact ⟨by first | rfl | (simp; done) | (simp [*]; done),by repeat (first | exact Drawn0.refl _ | apply Drawn0.step)⟩

/-! ### spec_l7Name: function 51 -/
def spec_l7Name.l0 : Nat → ByteArray → Int → Option (Bool)
 | 0,_,_ => none
 | k + 1,x0,x3 => if x3 < (x0.size : Int) then (if 0 ≤ x3 then (if (bt x0 x3) < 97 then (some false) else (if (bt x0 x3) > 122 then (some false) else (spec_l7Name.l0 k x0 (wrap64 (x3 + 1))))) else (none)) else ((spec_l6In.f (x0.size : Int) 1 3).bind fun t163 => (some t163))
def spec_l7Name.f (k : Nat) (a0 : ByteArray) : Option (Bool) := spec_l7Name.l0 k a0 0
theorem spec_l7Name.mono_l : ∀ k,(∀ y0 y1,LeO (spec_l7Name.l0 k y0 y1) (spec_l7Name.l0 (k + 1) y0 y1))
 | 0 => fun _ _ r h => by simp [spec_l7Name.l0] at h
 | k + 1 => by
  have ih0 := spec_l7Name.mono_l k
  ·intro y0 y1
   unfold spec_l7Name.l0
   repeat' first
   | (with_reducible exact ih0 _ _)
   | (with_reducible exact LeO.refl _)
   | (with_reducible exact LeO.none _)
   | (with_reducible refine LeO.ite ?_ ?_)
   | (with_reducible refine LeO.bind ?_ (fun _ => ?_))
   | exact ih0 _ _
   | exact LeO.none _
   | refine LeO.ite ?_ ?_
   | refine LeO.bind ?_ (fun _ => ?_)
theorem spec_l7Name.mono : ∀ a0 k,LeO (spec_l7Name.f k a0) (spec_l7Name.f (k + 1) a0) := by
 intro a0 k
 have ih0 := spec_l7Name.mono_l k
 unfold spec_l7Name.f
 repeat' first
   | (with_reducible exact ih0 _ _)
   | (with_reducible exact LeO.refl _)
   | (with_reducible exact LeO.none _)
   | (with_reducible refine LeO.ite ?_ ?_)
   | (with_reducible refine LeO.bind ?_ (fun _ => ?_))
   | exact ih0 _ _
   | exact LeO.none _
   | refine LeO.ite ?_ ?_
   | refine LeO.bind ?_ (fun _ => ?_)
set_option maxHeartbeats 8000000 in
set_option maxRecDepth 100000 in
theorem spec_l7Name.calls (k : Nat) (a0 : ByteArray) (r : Bool) (w : World) (h : spec_l7Name.f k a0 = some r) :
  Calls Try.prog 51 #[.string a0] w fun e w' => e = .returned (.bool r) ∧ Drawn0 w w' := by
 have H : (spec_l7Name.l0 k a0 0) = some r := h;clear h;have H' := Aside0.mk H;clear H
 go_enter Try.func51,Try.ntmps51
 go_wp2
 go_loopg [3] k (fun kq v3 w' => ∃ (x3_1 : Int),v3 = .int .i64 x3_1 ∧ Aside0 (spec_l7Name.l0 kq a0 x3_1 = some r) ∧ Aside0 (kq ≤ k) ∧ Drawn0 w w')
 case atStart => exact ⟨(0),(by first | rfl | (simp; done) | (simp [*]; done)),H',⟨Nat.le_refl _⟩,by repeat (first | exact Drawn0.refl _ | apply Drawn0.step)⟩
 case round =>
  clear H';obtain ⟨x3_1,rfl,HA,HK1,⟨m1,rfl⟩⟩ := hrel
  cases gk with
  | zero => exact absurd HA.out (by simp [spec_l7Name.l0])
  | succ k1 =>
   have H := HA.out;clear HA
   simp only [spec_l7Name.l0] at H
   by_cases c2 : x3_1 < (a0.size : Int)
   ·rw [if_pos c2] at H;have c2b0 : decide (x3_1 < (a0.size : Int)) = true := decide_eq_true c2;clear c2;by_cases c3 : 0 ≤ x3_1
    ·rw [if_pos c3] at H;have c3b0 : decide (0 ≤ x3_1) = true := decide_eq_true c3;clear c3;by_cases c5 : (bt a0 x3_1) < 97
     ·rw [if_pos c5] at H;have c5b0 : decide ((bt a0 x3_1) < 97) = true := decide_eq_true c5;clear c5;obtain rfl := Option.some.inj H
      simp only [Option.some.injEq,Prod.mk.injEq] at H
      obtain ⟨rfl⟩ := H;have p4 : 0 ≤ (x3_1 : Int) := od_ (by first | (with_reducible assumption) | assumption);have q4 : x3_1 < (a0.size : Int) := od_ (by first | (with_reducible assumption) | assumption);have hx4 := bt_at a0 x3_1;replace p4 := eq_true p4;replace q4 := eq_true q4
      go_wp2
      go_ret
      exact ⟨by first | rfl | (simp; done) | (simp [*]; done),by repeat (first | exact Drawn0.refl _ | apply Drawn0.step)⟩
     ·rw [if_neg c5] at H;have c5b0 : decide ((bt a0 x3_1) < 97) = false := decide_eq_false c5;clear c5;by_cases c7 : (bt a0 x3_1) > 122
      ·rw [if_pos c7] at H;have c7b0 : decide (122 < (bt a0 x3_1)) = true := decide_eq_true c7;clear c7;obtain rfl := Option.some.inj H
       simp only [Option.some.injEq,Prod.mk.injEq] at H
       obtain ⟨rfl⟩ := H;have p4 : 0 ≤ (x3_1 : Int) := od_ (by first | (with_reducible assumption) | assumption);have q4 : x3_1 < (a0.size : Int) := od_ (by first | (with_reducible assumption) | assumption);have hx4 := bt_at a0 x3_1;replace p4 := eq_true p4;replace q4 := eq_true q4;have p6 : 0 ≤ (x3_1 : Int) := od_ (by first | (with_reducible assumption) | assumption);have q6 : x3_1 < (a0.size : Int) := od_ (by first | (with_reducible assumption) | assumption);have hx6 := bt_at a0 x3_1;replace p6 := eq_true p6;replace q6 := eq_true q6
       go_wp2
       go_ret
       exact ⟨by first | rfl | (simp; done) | (simp [*]; done),by repeat (first | exact Drawn0.refl _ | apply Drawn0.step)⟩
      ·rw [if_neg c7] at H;have c7b0 : decide (122 < (bt a0 x3_1)) = false := decide_eq_false c7;clear c7;have H' := Aside0.mk H;clear H;have p4 : 0 ≤ (x3_1 : Int) := od_ (by first | (with_reducible assumption) | assumption);have q4 : x3_1 < (a0.size : Int) := od_ (by first | (with_reducible assumption) | assumption);have hx4 := bt_at a0 x3_1;replace p4 := eq_true p4;replace q4 := eq_true q4;have p6 : 0 ≤ (x3_1 : Int) := od_ (by first | (with_reducible assumption) | assumption);have q6 : x3_1 < (a0.size : Int) := od_ (by first | (with_reducible assumption) | assumption);have hx6 := bt_at a0 x3_1;replace p6 := eq_true p6;replace q6 := eq_true q6
       go_wp2
       go_roundg k1
       case measure => have := HK1.out; omega
       case rel => exact ⟨(wrap64 (x3_1 + 1)),(by first | rfl | (simp; done) | (simp [*]; done)),H',⟨by have := HK1.out; omega⟩,by repeat (first | exact Drawn0.refl _ | apply Drawn0.step)⟩
    ·rw [if_neg c3] at H
     exact absurd H (by simp)
   ·rw [if_neg c2] at H;have c2b0 : decide (x3_1 < (a0.size : Int)) = false := decide_eq_false c2;clear c2;replace H := Option.bind_eq_some_iff.mp H;obtain ⟨t163,A80,H⟩ := H;replace H : (some t163) = some r := H;have A8 := Aside0.mk A80;clear A80;obtain rfl := Option.some.inj H
    simp only [Option.some.injEq,Prod.mk.injEq] at H
    obtain ⟨rfl⟩ := H
    go_wp2_with (first | ((with_reducible refine gate_callee (f := 35) rfl ?_); refine goesL_ (some 22) rfl rfl Try.func35 (by kernel_rfl) rfl #[.int .i64 (a0.size : Int),.int .i64 1,.int .i64 3] rfl (by (try simp only [List.map_toArray,List.map_cons,List.map_nil]); first | done | rfl | (simp only [List.length_drop,List.length_take]; rfl)) ?_; (with_reducible refine (spec_l6In.calls (a0.size : Int) 1 3 t163 _ A8.out).mono ?_); rintro e w' ⟨rfl,⟨nd,rfl⟩⟩; refine ⟨_,rfl,?_⟩))
    go_ret
    exact ⟨by first | rfl | (simp; done) | (simp [*]; done),by repeat (first | exact Drawn0.refl _ | apply Drawn0.step)⟩

end Go.Proofs.Ytpljcphiaajjaaa.XFnExactFsRead
