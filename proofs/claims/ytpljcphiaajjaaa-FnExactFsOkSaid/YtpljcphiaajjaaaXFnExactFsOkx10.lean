-- Written by the kit's printer at the call of wip/tools/xprint.sh (this session's knobs and contracts). Not trusted: Lean checks it.
import Derived.Test.YtpljcphiaajjaaaXFnExactFsOkx0
import Derived.Test.YtpljcphiaajjaaaSqFnExactFsOk
import Derived.Test.YtpljcphiaajjaaaXFnExactFsOkx2
import Derived.Test.YtpljcphiaajjaaaXFnExactFsOkx3
import Derived.Test.YtpljcphiaajjaaaXFnExactFsOkx7
import Derived.Test.YtpljcphiaajjaaaXFnExactFsOkx8
import Derived.Test.YtpljcphiaajjaaaXFnExactFsOkx9
namespace Go.Proofs.Ytpljcphiaajjaaa.XFnExactFsOk
open Go.RowKit Go.Proofs.YtpljcphiaajjaaaW.PrintWords Go.Proofs.YtpljcphiaajjaaaW.PrintLast Go.Proofs.YtpljcphiaajjaaaW.PrintMore
attribute [local go_sem] max2_int min2_int max_two min_two max_three min_three max_four min_four   -- for this text's walks alone
set_option linter.unusedVariables false
set_option linter.unusedSimpArgs false
abbrev zb10_0 : Array Bool := #[false,false,false,false,false,false,false,false,false,false]
abbrev zb10_1 : Array Bool := #[true,false,false,false,false,false,false,false,false,false]
abbrev zb10_2 : Array Bool := #[true,true,false,false,false,false,false,false,false,false]
abbrev zb10_3 : Array Bool := #[true,true,true,false,false,false,false,false,false,false]
abbrev zb10_4 : Array Bool := #[true,true,true,false,true,false,false,false,false,false]
abbrev zb10_5 : Array Bool := #[true,true,true,false,true,true,false,false,false,false]
abbrev zb10_6 : Array Bool := #[true,true,true,false,true,true,true,false,false,false]
abbrev zb10_7 : Array Bool := #[true,true,true,true,true,true,true,false,false,false]
abbrev zb10_8 : Array Bool := #[true,true,true,true,true,true,true,true,false,false]
abbrev zb10_9 : Array Bool := #[true,true,true,true,true,true,true,true,true,false]
abbrev zb10_10 : Array Bool := #[true,true,true,true,true,true,true,true,true,true]

/-! ### laws_eqInodeS: function 43 -/
def laws_eqInodeS.l0 : Nat → List (S34) → List (S34) → Int → Option (Bool)
 | 0,_,_,_ => none
 | k + 1,x0,x1,x5 => if x5 < (x0.length : Int) then (if 0 ≤ x5 then (if x5 < (x1.length : Int) then ((laws_eqInode.f k ((rd_T34 x0 x5).f0) ((rd_T34 x0 x5).f1) ((rd_T34 x0 x5).f2) ((rd_T34 x0 x5).f3) ((rd_T34 x0 x5).f4) ((rd_T34 x0 x5).f5) ((rd_T34 x0 x5).f6) ((rd_T34 x0 x5).f7) ((rd_T34 x0 x5).f8) ((rd_T34 x1 x5).f0) ((rd_T34 x1 x5).f1) ((rd_T34 x1 x5).f2) ((rd_T34 x1 x5).f3) ((rd_T34 x1 x5).f4) ((rd_T34 x1 x5).f5) ((rd_T34 x1 x5).f6) ((rd_T34 x1 x5).f7) ((rd_T34 x1 x5).f8)).bind fun t256 => (if t256 = true then (laws_eqInodeS.l0 k x0 x1 (wrap64 (x5 + 1))) else (some false))) else (none)) else (none)) else (some true)
def laws_eqInodeS.f (k : Nat) (l0 : List (S34)) (l1 : List (S34)) : Option (Bool) := if (l0.length : Int) = (l1.length : Int) then (laws_eqInodeS.l0 k l0 l1 0) else (some false)
theorem laws_eqInodeS.mono_l : ∀ k,(∀ y0 y1 y2,LeO (laws_eqInodeS.l0 k y0 y1 y2) (laws_eqInodeS.l0 (k + 1) y0 y1 y2))
 | 0 => fun _ _ _ r h => by simp [laws_eqInodeS.l0] at h
 | k + 1 => by
  have ih0 := laws_eqInodeS.mono_l k
  ·intro y0 y1 y2
   unfold laws_eqInodeS.l0
   repeat' first
   | (with_reducible exact ih0 _ _ _)
   | (with_reducible exact laws_eqInode.mono _ _ _ _ _ _ _ _ _ _ _ _ _ _ _ _ _ _ _)
   | (with_reducible exact LeO.refl _)
   | (with_reducible exact LeO.none _)
   | (with_reducible refine LeO.ite ?_ ?_)
   | (with_reducible refine LeO.bind ?_ (fun _ => ?_))
   | exact ih0 _ _ _
   | exact laws_eqInode.mono _ _ _ _ _ _ _ _ _ _ _ _ _ _ _ _ _ _ _
   | exact LeO.none _
   | refine LeO.ite ?_ ?_
   | refine LeO.bind ?_ (fun _ => ?_)
theorem laws_eqInodeS.mono : ∀ a0 a1 k,LeO (laws_eqInodeS.f k a0 a1) (laws_eqInodeS.f (k + 1) a0 a1) := by
 intro a0 a1 k
 have ih0 := laws_eqInodeS.mono_l k
 unfold laws_eqInodeS.f
 repeat' first
   | (with_reducible exact ih0 _ _ _)
   | (with_reducible exact laws_eqInode.mono _ _ _ _ _ _ _ _ _ _ _ _ _ _ _ _ _ _ _)
   | (with_reducible exact LeO.refl _)
   | (with_reducible exact LeO.none _)
   | (with_reducible refine LeO.ite ?_ ?_)
   | (with_reducible refine LeO.bind ?_ (fun _ => ?_))
   | exact ih0 _ _ _
   | exact laws_eqInode.mono _ _ _ _ _ _ _ _ _ _ _ _ _ _ _ _ _ _ _
   | exact LeO.none _
   | refine LeO.ite ?_ ?_
   | refine LeO.bind ?_ (fun _ => ?_)
def laws_eqInodeS.T6 : Bool × List (List Nat × List Nat) := (true,[([],[]),([],[]),([0,1],[0,1]),([2],[2]),([],[]),([],[]),([4,5],[4,5]),([6],[6]),([3,7],[3,7]),([8],[8])])
def laws_eqInodeS.B6 : List Nat := [0,0,3,7,0,0,48,112,255,511]
theorem laws_eqInodeS.tab6 : rtab .any (opsOf Try.f43 6) = laws_eqInodeS.T6 := by kernel_rfl
theorem laws_eqInodeS.bits6 : waitsOk laws_eqInodeS.T6.2 laws_eqInodeS.B6 = true := by kernel_rfl
set_option maxHeartbeats 8000000 in
set_option maxRecDepth 100000 in
theorem laws_eqInodeS.calls (k : Nat) (A0 : Option Addr) (c0 : Nat) (l0 : List (S34)) (A1 : Option Addr) (c1 : Nat) (l1 : List (S34)) (r : Bool) (w : World) (hr0 : Kd.C k34 w A0 l0.length l0) (hc0 : l0.length ≤ c0) (hr1 : Kd.C k34 w A1 l1.length l1) (hc1 : l1.length ≤ c1) (h : laws_eqInodeS.f k l0 l1 = some r) :
  Calls Try.prog 43 #[.slice A0 l0.length c0,.slice A1 l1.length c1] w fun e w' => e = .returned (.bool r) ∧ Below w.heap.size w w' := by
 have hu34 := Try.underlying34;have HR0 := Aside0.mk hr0;have HC0 := Aside0.mk hc0;clear hr0 hc0;have HR1 := Aside0.mk hr1;have HC1 := Aside0.mk hc1;clear hr1 hc1;have HB := Aside0.mk (Below.refl w.heap.size w);have H : (if (l0.length : Int) = (l1.length : Int) then (laws_eqInodeS.l0 k l0 l1 0) else (some false)) = some r := h;clear h;by_cases c3 : (l0.length : Int) = (l1.length : Int)
 ·rw [if_pos c3] at H;have c3b0 : ((l0.length : Int) == (l1.length : Int)) = true := beq_iff_eq.mpr c3;have c3b1 : ((l0.length : Int) != (l1.length : Int)) = false := bne_eq_false_iff_eq.mpr c3;(have c3b2 : (l0.length == l1.length) = true := by first | simpa using c3 | (simp at c3 ⊢; omega));clear c3;have H' := Aside0.mk H;clear H
  go_enter Try.func43,Try.ntmps43
  go_wp2
  go_loopg [5] k (fun kq v5 w' => ∃ (x5_1 : Int),v5 = .int .i64 x5_1 ∧ Aside0 (laws_eqInodeS.l0 kq l0 l1 x5_1 = some r) ∧ Aside0 (kq ≤ k) ∧ Aside0 (Below w.heap.size w w'))
  case atStart => exact ⟨(0),(by first | rfl | (simp; done) | (simp [*]; done)),H',⟨Nat.le_refl _⟩,⟨by repeat (first | (with_reducible first | exact HB.out | apply yA | apply yN | apply yD) | exact HB.out)⟩⟩
  case round =>
   clear H';(try clear c1);(try clear p2);(try clear c3);(try clear c3b0);(try clear c3b1);(try clear c3b2);obtain ⟨x5_1,rfl,HA,HK1,HB⟩ := hrel
   cases gk with
   | zero => exact absurd HA.out (by simp [laws_eqInodeS.l0])
   | succ k1 =>
    have H := HA.out;clear HA
    simp only [laws_eqInodeS.l0] at H
    by_cases c4 : x5_1 < (l0.length : Int)
    ·rw [if_pos c4] at H;have c4b0 : decide (x5_1 < (l0.length : Int)) = true := decide_eq_true c4;clear c4;by_cases c5 : 0 ≤ x5_1
     ·rw [if_pos c5] at H;have c5b0 : decide (0 ≤ x5_1) = true := decide_eq_true c5;clear c5;by_cases c6 : x5_1 < (l1.length : Int)
      ·rw [if_pos c6] at H;have c6b0 : decide (x5_1 < (l1.length : Int)) = true := decide_eq_true c6;clear c6;replace H := Option.bind_eq_some_iff.mp H;obtain ⟨t256,A70,H⟩ := H;replace H : (if t256 = true then (laws_eqInodeS.l0 k1 l0 l1 (wrap64 (x5_1 + 1))) else (some false)) = some r := H;have A7 := Aside0.mk A70;clear A70;by_cases c8 : t256 = true
       ·subst c8;(have H1 : (laws_eqInodeS.l0 k1 l0 l1 (wrap64 (x5_1 + 1))) = some r := by rw [if_pos rfl] at H; exact H);clear H;have H := H1;clear H1;have H' := Aside0.mk H;clear H
        try go_wp2
        have n0_ := Aside0.mk (yD HB.out);clear HB;have HB := n0_;clear n0_;have p254 : 0 ≤ (x5_1 : Int) := od_ (by first | (with_reducible assumption) | assumption);have q254 : x5_1 < (l0.length : Int) := od_ (by first | (with_reducible assumption) | assumption);obtain ⟨ad254,A254_8,c254_8,e254,hx254_0,hx254_1,hx254_2,hx254_3,hx254_4,hx254_5,hx254_6,hx254_7,hx254_8,hl254_8,hi254_8⟩ := at_T34 HR0.out x5_1 p254 q254;have hw254_8 := hx254_8;have hw254_7 := hx254_7;have hw254_6 := hx254_6;have hw254_5 := hx254_5;have hw254_4 := hx254_4;have hw254_3 := hx254_3;have hw254_2 := hx254_2;have hw254_1 := hx254_1;have hw254_0 := hx254_0
        cases e254
        replace hx254_0 := bc_ HB hx254_0;replace hx254_1 := bc_ HB hx254_1;replace hx254_2 := bc_ HB hx254_2;replace hx254_3 := bc_ HB hx254_3;replace hx254_4 := bc_ HB hx254_4;replace hx254_5 := bc_ HB hx254_5;replace hx254_6 := bc_ HB hx254_6;replace hx254_7 := bc_ HB hx254_7;replace hx254_8 := bc_ HB hx254_8;have HR254_8 := Aside0.mk hi254_8;have HC254_8 := Aside0.mk hl254_8;clear hi254_8 hl254_8;replace p254 := eq_true p254;replace q254 := eq_true q254;have p255 : 0 ≤ (x5_1 : Int) := od_ (by first | (with_reducible assumption) | assumption);have q255 : x5_1 < (l1.length : Int) := od_ (by first | (with_reducible assumption) | assumption);obtain ⟨ad255,A255_8,c255_8,e255,hx255_0,hx255_1,hx255_2,hx255_3,hx255_4,hx255_5,hx255_6,hx255_7,hx255_8,hl255_8,hi255_8⟩ := at_T34 HR1.out x5_1 p255 q255;have hw255_8 := hx255_8;have hw255_7 := hx255_7;have hw255_6 := hx255_6;have hw255_5 := hx255_5;have hw255_4 := hx255_4;have hw255_3 := hx255_3;have hw255_2 := hx255_2;have hw255_1 := hx255_1;have hw255_0 := hx255_0
        cases e255
        replace hx255_0 := bc_ HB hx255_0;replace hx255_1 := bc_ HB hx255_1;replace hx255_2 := bc_ HB hx255_2;replace hx255_3 := bc_ HB hx255_3;replace hx255_4 := bc_ HB hx255_4;replace hx255_5 := bc_ HB hx255_5;replace hx255_6 := bc_ HB hx255_6;replace hx255_7 := bc_ HB hx255_7;replace hx255_8 := bc_ HB hx255_8;have HR255_8 := Aside0.mk hi255_8;have HC255_8 := Aside0.mk hl255_8;clear hi255_8 hl255_8;replace p255 := eq_true p255;replace q255 := eq_true q255
        refine start_ (n := 10) (S := fun w' => w'.cell? (ad254.add ((x5_1).toNat * 9)) = some (.int .i64 ((rd_T34 l0 x5_1).f0)) ∧ w'.cell? ⟨(ad254.add ((x5_1).toNat * 9)).block,(ad254.add ((x5_1).toNat * 9)).off + 1,none⟩ = some (.int .i64 ((rd_T34 l0 x5_1).f1)) ∧ w'.cell? ⟨(ad254.add ((x5_1).toNat * 9)).block,(ad254.add ((x5_1).toNat * 9)).off + 2,none⟩ = some (.int .i64 ((rd_T34 l0 x5_1).f2)) ∧ w'.cell? ⟨(ad254.add ((x5_1).toNat * 9)).block,(ad254.add ((x5_1).toNat * 9)).off + 3,none⟩ = some (.int .i64 ((rd_T34 l0 x5_1).f3)) ∧ w'.cell? ⟨(ad254.add ((x5_1).toNat * 9)).block,(ad254.add ((x5_1).toNat * 9)).off + 4,none⟩ = some (.int .i64 ((rd_T34 l0 x5_1).f4)) ∧ w'.cell? ⟨(ad254.add ((x5_1).toNat * 9)).block,(ad254.add ((x5_1).toNat * 9)).off + 5,none⟩ = some (.int .i64 ((rd_T34 l0 x5_1).f5)) ∧ w'.cell? ⟨(ad254.add ((x5_1).toNat * 9)).block,(ad254.add ((x5_1).toNat * 9)).off + 6,none⟩ = some (.bool ((rd_T34 l0 x5_1).f6)) ∧ w'.cell? ⟨(ad254.add ((x5_1).toNat * 9)).block,(ad254.add ((x5_1).toNat * 9)).off + 7,none⟩ = some (.string ((rd_T34 l0 x5_1).f7)) ∧ w'.cell? ⟨(ad254.add ((x5_1).toNat * 9)).block,(ad254.add ((x5_1).toNat * 9)).off + 8,none⟩ = some (.slice A254_8 ((rd_T34 l0 x5_1).f8).length c254_8) ∧ w'.cell? (ad255.add ((x5_1).toNat * 9)) = some (.int .i64 ((rd_T34 l1 x5_1).f0)) ∧ w'.cell? ⟨(ad255.add ((x5_1).toNat * 9)).block,(ad255.add ((x5_1).toNat * 9)).off + 1,none⟩ = some (.int .i64 ((rd_T34 l1 x5_1).f1)) ∧ w'.cell? ⟨(ad255.add ((x5_1).toNat * 9)).block,(ad255.add ((x5_1).toNat * 9)).off + 2,none⟩ = some (.int .i64 ((rd_T34 l1 x5_1).f2)) ∧ w'.cell? ⟨(ad255.add ((x5_1).toNat * 9)).block,(ad255.add ((x5_1).toNat * 9)).off + 3,none⟩ = some (.int .i64 ((rd_T34 l1 x5_1).f3)) ∧ w'.cell? ⟨(ad255.add ((x5_1).toNat * 9)).block,(ad255.add ((x5_1).toNat * 9)).off + 4,none⟩ = some (.int .i64 ((rd_T34 l1 x5_1).f4)) ∧ w'.cell? ⟨(ad255.add ((x5_1).toNat * 9)).block,(ad255.add ((x5_1).toNat * 9)).off + 5,none⟩ = some (.int .i64 ((rd_T34 l1 x5_1).f5)) ∧ w'.cell? ⟨(ad255.add ((x5_1).toNat * 9)).block,(ad255.add ((x5_1).toNat * 9)).off + 6,none⟩ = some (.bool ((rd_T34 l1 x5_1).f6)) ∧ w'.cell? ⟨(ad255.add ((x5_1).toNat * 9)).block,(ad255.add ((x5_1).toNat * 9)).off + 7,none⟩ = some (.string ((rd_T34 l1 x5_1).f7)) ∧ w'.cell? ⟨(ad255.add ((x5_1).toNat * 9)).block,(ad255.add ((x5_1).toNat * 9)).off + 8,none⟩ = some (.slice A255_8 ((rd_T34 l1 x5_1).f8).length c255_8)) (ds := []) zb10_0 (by kernel_rfl) rfl rfl ⟨((HB.out.cell (World.block_lt_of_cell? w _ hw254_0)).trans hw254_0),((HB.out.cell (World.block_lt_of_cell? w _ hw254_1)).trans hw254_1),((HB.out.cell (World.block_lt_of_cell? w _ hw254_2)).trans hw254_2),((HB.out.cell (World.block_lt_of_cell? w _ hw254_3)).trans hw254_3),((HB.out.cell (World.block_lt_of_cell? w _ hw254_4)).trans hw254_4),((HB.out.cell (World.block_lt_of_cell? w _ hw254_5)).trans hw254_5),((HB.out.cell (World.block_lt_of_cell? w _ hw254_6)).trans hw254_6),((HB.out.cell (World.block_lt_of_cell? w _ hw254_7)).trans hw254_7),((HB.out.cell (World.block_lt_of_cell? w _ hw254_8)).trans hw254_8),((HB.out.cell (World.block_lt_of_cell? w _ hw255_0)).trans hw255_0),((HB.out.cell (World.block_lt_of_cell? w _ hw255_1)).trans hw255_1),((HB.out.cell (World.block_lt_of_cell? w _ hw255_2)).trans hw255_2),((HB.out.cell (World.block_lt_of_cell? w _ hw255_3)).trans hw255_3),((HB.out.cell (World.block_lt_of_cell? w _ hw255_4)).trans hw255_4),((HB.out.cell (World.block_lt_of_cell? w _ hw255_5)).trans hw255_5),((HB.out.cell (World.block_lt_of_cell? w _ hw255_6)).trans hw255_6),((HB.out.cell (World.block_lt_of_cell? w _ hw255_7)).trans hw255_7),((HB.out.cell (World.block_lt_of_cell? w _ hw255_8)).trans hw255_8)⟩ (fun hHeld => ?_); refine with_tabW laws_eqInodeS.tab6 laws_eqInodeS.bits6 (fun HT_ HW_ => ?_)
        generalize wr.drew = w9 at HB HR254_8 HR255_8 hx254_0 hx254_1 hx254_2 hx254_3 hx254_4 hx254_5 hx254_6 hx254_7 hx254_8 hx255_0 hx255_1 hx255_2 hx255_3 hx255_4 hx255_5 hx255_6 hx255_7 hx255_8 hHeld ⊢
        refine pure_ (i := 0) (N := some 17) (v := ?_) (a' := ?_) zb10_1 rfl rfl (any_of HT_.out (by kernel_rfl)) (fun _ _ _ h => h) (Or.inl ⟨by rfl,?_⟩) ?_ ?_
        rotate_left
        ·intro w'
         go_simp
         with_reducible rfl
        rotate_left
        ·simp only [Act.put,List.setIfInBounds_toArray,List.set_cons_zero,List.set_cons_succ,i64_w,i32_w]
         rfl
        refine pure_ (i := 1) (N := some 18) (v := ?_) (a' := ?_) zb10_2 rfl rfl (any_of HT_.out (by kernel_rfl)) (fun _ _ _ h => h) (Or.inl ⟨by rfl,?_⟩) ?_ ?_
        rotate_left
        ·intro w'
         go_simp
         with_reducible rfl
        rotate_left
        ·simp only [Act.put,List.setIfInBounds_toArray,List.set_cons_zero,List.set_cons_succ,i64_w,i32_w]
         rfl
        refine pure_ (i := 2) (N := some 19) (v := ?_) (a' := ?_) zb10_3 rfl rfl (any_of HT_.out (by kernel_rfl)) (fun _ _ _ h => h) (Or.inl ⟨by rfl,?_⟩) ?_ ?_
        rotate_left
        ·intro w'
         go_simp
         with_reducible rfl
        rotate_left
        ·simp only [Act.put,List.setIfInBounds_toArray,List.set_cons_zero,List.set_cons_succ,i64_w,i32_w]
         rfl
        refine pure_ (i := 4) (N := some 21) (v := ?_) (a' := ?_) zb10_4 rfl rfl (any_of HT_.out (by kernel_rfl)) (fun _ _ _ h => h) (Or.inl ⟨by rfl,?_⟩) ?_ ?_
        rotate_left
        ·intro w'
         go_simp
         with_reducible rfl
        rotate_left
        ·simp only [Act.put,List.setIfInBounds_toArray,List.set_cons_zero,List.set_cons_succ,i64_w,i32_w]
         rfl
        refine pure_ (i := 5) (N := some 22) (v := ?_) (a' := ?_) zb10_5 rfl rfl (any_of HT_.out (by kernel_rfl)) (fun _ _ _ h => h) (Or.inl ⟨by rfl,?_⟩) ?_ ?_
        rotate_left
        ·intro w'
         go_simp
         with_reducible rfl
        rotate_left
        ·simp only [Act.put,List.setIfInBounds_toArray,List.set_cons_zero,List.set_cons_succ,i64_w,i32_w]
         rfl
        refine pure_ (i := 6) (N := some 23) (v := ?_) (a' := ?_) zb10_6 rfl rfl (any_of HT_.out (by kernel_rfl)) (fun _ _ _ h => h) (Or.inl ⟨by rfl,?_⟩) ?_ ?_
        rotate_left
        ·intro w'
         go_simp
         with_reducible rfl
        rotate_left
        ·simp only [Act.put,List.setIfInBounds_toArray,List.set_cons_zero,List.set_cons_succ,i64_w,i32_w]
         rfl
        refine take_ (i := 3) (N := some 20) (v := ?_) (a' := ?_) zb10_7 rfl rfl (take_ofW HT_.out HW_.out (by kernel_rfl)) (fun _ _ _ h => h) (Or.inl ⟨by rfl,?_⟩) hHeld ?_ ?_
        rotate_left
        ·rintro w' ⟨s0,s1,s2,s3,s4,s5,s6,s7,s8,s9,s10,s11,s12,s13,s14,s15,s16,s17⟩
         go_simp
         with_reducible rfl
        rotate_left
        ·simp only [Act.put,List.setIfInBounds_toArray,List.set_cons_zero,List.set_cons_succ,i64_w,i32_w]
         rfl
        refine take_ (i := 7) (N := some 24) (v := ?_) (a' := ?_) zb10_8 rfl rfl (take_ofW HT_.out HW_.out (by kernel_rfl)) (fun _ _ _ h => h) (Or.inl ⟨by rfl,?_⟩) hHeld ?_ ?_
        rotate_left
        ·rintro w' ⟨s0,s1,s2,s3,s4,s5,s6,s7,s8,s9,s10,s11,s12,s13,s14,s15,s16,s17⟩
         go_simp
         with_reducible rfl
        rotate_left
        ·simp only [Act.put,List.setIfInBounds_toArray,List.set_cons_zero,List.set_cons_succ,i64_w,i32_w]
         rfl
        refine one_ (i := 8) (N := some 25) zb10_9 rfl rfl (one_of HT_.out (by kernel_rfl)) (by decide) (fun K hK => ?_)
        refine goes_ Try.func68 (by kernel_rfl) rfl #[.agg #[.int .i64 ((rd_T34 l0 x5_1).f0),.int .i64 ((rd_T34 l0 x5_1).f1),.int .i64 ((rd_T34 l0 x5_1).f2),.int .i64 ((rd_T34 l0 x5_1).f3),.int .i64 ((rd_T34 l0 x5_1).f4),.int .i64 ((rd_T34 l0 x5_1).f5),.bool ((rd_T34 l0 x5_1).f6),.string ((rd_T34 l0 x5_1).f7),.slice A254_8 ((rd_T34 l0 x5_1).f8).length c254_8],.agg #[.int .i64 ((rd_T34 l1 x5_1).f0),.int .i64 ((rd_T34 l1 x5_1).f1),.int .i64 ((rd_T34 l1 x5_1).f2),.int .i64 ((rd_T34 l1 x5_1).f3),.int .i64 ((rd_T34 l1 x5_1).f4),.int .i64 ((rd_T34 l1 x5_1).f5),.bool ((rd_T34 l1 x5_1).f6),.string ((rd_T34 l1 x5_1).f7),.slice A255_8 ((rd_T34 l1 x5_1).f8).length c255_8]] (by rfl) rfl rfl (by (try simp only [List.map_toArray,List.map_cons,List.map_nil]); first | done | rfl | (simp only [List.length_drop,List.length_take]; rfl)) ?_
        with_reducible refine (laws_eqInode.calls k1 ((rd_T34 l0 x5_1).f0) ((rd_T34 l0 x5_1).f1) ((rd_T34 l0 x5_1).f2) ((rd_T34 l0 x5_1).f3) ((rd_T34 l0 x5_1).f4) ((rd_T34 l0 x5_1).f5) ((rd_T34 l0 x5_1).f6) ((rd_T34 l0 x5_1).f7) _ _ ((rd_T34 l0 x5_1).f8) ((rd_T34 l1 x5_1).f0) ((rd_T34 l1 x5_1).f1) ((rd_T34 l1 x5_1).f2) ((rd_T34 l1 x5_1).f3) ((rd_T34 l1 x5_1).f4) ((rd_T34 l1 x5_1).f5) ((rd_T34 l1 x5_1).f6) ((rd_T34 l1 x5_1).f7) _ _ ((rd_T34 l1 x5_1).f8) true _ ?side1 ?side2 ?side3 ?side4 A7.out).mono ?_
        (case side1 => repeat (first | exact (Kd.C_below HR254_8.out HB.out) | (with_reducible refine Kd.C_alloc ?_ _) | (with_reducible refine Kd.C_drewN ?_ _) | (with_reducible refine Kd.C_drew ?_)));(case side2 => exact HC254_8.out);(case side3 => repeat (first | exact (Kd.C_below HR255_8.out HB.out) | (with_reducible refine Kd.C_alloc ?_ _) | (with_reducible refine Kd.C_drewN ?_ _) | (with_reducible refine Kd.C_drew ?_)));(case side4 => exact HC255_8.out)
        rintro e w10 ⟨rfl,hb⟩
        refine ⟨_,rfl,?_⟩
        have n0_ := Aside0.mk (below_step (by repeat (first | (with_reducible first | exact HB.out | apply yA | apply yN | apply yD) | exact HB.out)) hb);clear HB;have HB := n0_;clear n0_;(try clear hb);(try clear hb2);(try clear hk);(try clear hi)
        refine hK.out _ _ ⟨((HB.out.cell (World.block_lt_of_cell? w _ hw254_0)).trans hw254_0),((HB.out.cell (World.block_lt_of_cell? w _ hw254_1)).trans hw254_1),((HB.out.cell (World.block_lt_of_cell? w _ hw254_2)).trans hw254_2),((HB.out.cell (World.block_lt_of_cell? w _ hw254_3)).trans hw254_3),((HB.out.cell (World.block_lt_of_cell? w _ hw254_4)).trans hw254_4),((HB.out.cell (World.block_lt_of_cell? w _ hw254_5)).trans hw254_5),((HB.out.cell (World.block_lt_of_cell? w _ hw254_6)).trans hw254_6),((HB.out.cell (World.block_lt_of_cell? w _ hw254_7)).trans hw254_7),((HB.out.cell (World.block_lt_of_cell? w _ hw254_8)).trans hw254_8),((HB.out.cell (World.block_lt_of_cell? w _ hw255_0)).trans hw255_0),((HB.out.cell (World.block_lt_of_cell? w _ hw255_1)).trans hw255_1),((HB.out.cell (World.block_lt_of_cell? w _ hw255_2)).trans hw255_2),((HB.out.cell (World.block_lt_of_cell? w _ hw255_3)).trans hw255_3),((HB.out.cell (World.block_lt_of_cell? w _ hw255_4)).trans hw255_4),((HB.out.cell (World.block_lt_of_cell? w _ hw255_5)).trans hw255_5),((HB.out.cell (World.block_lt_of_cell? w _ hw255_6)).trans hw255_6),((HB.out.cell (World.block_lt_of_cell? w _ hw255_7)).trans hw255_7),((HB.out.cell (World.block_lt_of_cell? w _ hw255_8)).trans hw255_8)⟩ (fun hHeld => ?_)
        clear hK K
        refine norm_ (a' := ?_) ?_ ?_
        rotate_left
        ·show Act.put _ (some 25) _ = _
         simp only [Act.put,List.setIfInBounds_toArray,List.set_cons_zero,List.set_cons_succ,i64_w,i32_w]
         rfl
        refine pure_ (i := 9) (N := some 26) (v := ?_) (a' := ?_) zb10_10 rfl rfl (any_of HT_.out (by kernel_rfl)) (fun _ _ _ h => h) (Or.inl ⟨by rfl,?_⟩) ?_ ?_
        rotate_left
        ·intro w'
         go_simp
         with_reducible rfl
        rotate_left
        ·simp only [Act.put,List.setIfInBounds_toArray,List.set_cons_zero,List.set_cons_succ,i64_w,i32_w]
         rfl
        refine done_ (done_of HT_.out (by kernel_rfl)) ?_
        try go_wp2
        go_roundg k1
        case measure => have := HK1.out; omega
        case rel => exact ⟨(wrap64 (x5_1 + 1)),(by first | rfl | (simp; done) | (simp [*]; done)),H',⟨by have := HK1.out; omega⟩,⟨by repeat (first | (with_reducible first | exact HB.out | apply yA | apply yN | apply yD) | exact HB.out)⟩⟩
       ·replace c8 := Bool.eq_false_iff.mpr c8;subst c8;(have H1 : (some false) = some r := by rw [if_neg (show ¬ (false = true) by decide)] at H; exact H);clear H;have H := H1;clear H1;obtain rfl := Option.some.inj H
        simp only [Option.some.injEq,Prod.mk.injEq] at H
        obtain ⟨rfl⟩ := H
        try go_wp2
        have n0_ := Aside0.mk (yD HB.out);clear HB;have HB := n0_;clear n0_;have p254 : 0 ≤ (x5_1 : Int) := od_ (by first | (with_reducible assumption) | assumption);have q254 : x5_1 < (l0.length : Int) := od_ (by first | (with_reducible assumption) | assumption);obtain ⟨ad254,A254_8,c254_8,e254,hx254_0,hx254_1,hx254_2,hx254_3,hx254_4,hx254_5,hx254_6,hx254_7,hx254_8,hl254_8,hi254_8⟩ := at_T34 HR0.out x5_1 p254 q254;have hw254_8 := hx254_8;have hw254_7 := hx254_7;have hw254_6 := hx254_6;have hw254_5 := hx254_5;have hw254_4 := hx254_4;have hw254_3 := hx254_3;have hw254_2 := hx254_2;have hw254_1 := hx254_1;have hw254_0 := hx254_0
        cases e254
        replace hx254_0 := bc_ HB hx254_0;replace hx254_1 := bc_ HB hx254_1;replace hx254_2 := bc_ HB hx254_2;replace hx254_3 := bc_ HB hx254_3;replace hx254_4 := bc_ HB hx254_4;replace hx254_5 := bc_ HB hx254_5;replace hx254_6 := bc_ HB hx254_6;replace hx254_7 := bc_ HB hx254_7;replace hx254_8 := bc_ HB hx254_8;have HR254_8 := Aside0.mk hi254_8;have HC254_8 := Aside0.mk hl254_8;clear hi254_8 hl254_8;replace p254 := eq_true p254;replace q254 := eq_true q254;have p255 : 0 ≤ (x5_1 : Int) := od_ (by first | (with_reducible assumption) | assumption);have q255 : x5_1 < (l1.length : Int) := od_ (by first | (with_reducible assumption) | assumption);obtain ⟨ad255,A255_8,c255_8,e255,hx255_0,hx255_1,hx255_2,hx255_3,hx255_4,hx255_5,hx255_6,hx255_7,hx255_8,hl255_8,hi255_8⟩ := at_T34 HR1.out x5_1 p255 q255;have hw255_8 := hx255_8;have hw255_7 := hx255_7;have hw255_6 := hx255_6;have hw255_5 := hx255_5;have hw255_4 := hx255_4;have hw255_3 := hx255_3;have hw255_2 := hx255_2;have hw255_1 := hx255_1;have hw255_0 := hx255_0
        cases e255
        replace hx255_0 := bc_ HB hx255_0;replace hx255_1 := bc_ HB hx255_1;replace hx255_2 := bc_ HB hx255_2;replace hx255_3 := bc_ HB hx255_3;replace hx255_4 := bc_ HB hx255_4;replace hx255_5 := bc_ HB hx255_5;replace hx255_6 := bc_ HB hx255_6;replace hx255_7 := bc_ HB hx255_7;replace hx255_8 := bc_ HB hx255_8;have HR255_8 := Aside0.mk hi255_8;have HC255_8 := Aside0.mk hl255_8;clear hi255_8 hl255_8;replace p255 := eq_true p255;replace q255 := eq_true q255
        refine start_ (n := 10) (S := fun w' => w'.cell? (ad254.add ((x5_1).toNat * 9)) = some (.int .i64 ((rd_T34 l0 x5_1).f0)) ∧ w'.cell? ⟨(ad254.add ((x5_1).toNat * 9)).block,(ad254.add ((x5_1).toNat * 9)).off + 1,none⟩ = some (.int .i64 ((rd_T34 l0 x5_1).f1)) ∧ w'.cell? ⟨(ad254.add ((x5_1).toNat * 9)).block,(ad254.add ((x5_1).toNat * 9)).off + 2,none⟩ = some (.int .i64 ((rd_T34 l0 x5_1).f2)) ∧ w'.cell? ⟨(ad254.add ((x5_1).toNat * 9)).block,(ad254.add ((x5_1).toNat * 9)).off + 3,none⟩ = some (.int .i64 ((rd_T34 l0 x5_1).f3)) ∧ w'.cell? ⟨(ad254.add ((x5_1).toNat * 9)).block,(ad254.add ((x5_1).toNat * 9)).off + 4,none⟩ = some (.int .i64 ((rd_T34 l0 x5_1).f4)) ∧ w'.cell? ⟨(ad254.add ((x5_1).toNat * 9)).block,(ad254.add ((x5_1).toNat * 9)).off + 5,none⟩ = some (.int .i64 ((rd_T34 l0 x5_1).f5)) ∧ w'.cell? ⟨(ad254.add ((x5_1).toNat * 9)).block,(ad254.add ((x5_1).toNat * 9)).off + 6,none⟩ = some (.bool ((rd_T34 l0 x5_1).f6)) ∧ w'.cell? ⟨(ad254.add ((x5_1).toNat * 9)).block,(ad254.add ((x5_1).toNat * 9)).off + 7,none⟩ = some (.string ((rd_T34 l0 x5_1).f7)) ∧ w'.cell? ⟨(ad254.add ((x5_1).toNat * 9)).block,(ad254.add ((x5_1).toNat * 9)).off + 8,none⟩ = some (.slice A254_8 ((rd_T34 l0 x5_1).f8).length c254_8) ∧ w'.cell? (ad255.add ((x5_1).toNat * 9)) = some (.int .i64 ((rd_T34 l1 x5_1).f0)) ∧ w'.cell? ⟨(ad255.add ((x5_1).toNat * 9)).block,(ad255.add ((x5_1).toNat * 9)).off + 1,none⟩ = some (.int .i64 ((rd_T34 l1 x5_1).f1)) ∧ w'.cell? ⟨(ad255.add ((x5_1).toNat * 9)).block,(ad255.add ((x5_1).toNat * 9)).off + 2,none⟩ = some (.int .i64 ((rd_T34 l1 x5_1).f2)) ∧ w'.cell? ⟨(ad255.add ((x5_1).toNat * 9)).block,(ad255.add ((x5_1).toNat * 9)).off + 3,none⟩ = some (.int .i64 ((rd_T34 l1 x5_1).f3)) ∧ w'.cell? ⟨(ad255.add ((x5_1).toNat * 9)).block,(ad255.add ((x5_1).toNat * 9)).off + 4,none⟩ = some (.int .i64 ((rd_T34 l1 x5_1).f4)) ∧ w'.cell? ⟨(ad255.add ((x5_1).toNat * 9)).block,(ad255.add ((x5_1).toNat * 9)).off + 5,none⟩ = some (.int .i64 ((rd_T34 l1 x5_1).f5)) ∧ w'.cell? ⟨(ad255.add ((x5_1).toNat * 9)).block,(ad255.add ((x5_1).toNat * 9)).off + 6,none⟩ = some (.bool ((rd_T34 l1 x5_1).f6)) ∧ w'.cell? ⟨(ad255.add ((x5_1).toNat * 9)).block,(ad255.add ((x5_1).toNat * 9)).off + 7,none⟩ = some (.string ((rd_T34 l1 x5_1).f7)) ∧ w'.cell? ⟨(ad255.add ((x5_1).toNat * 9)).block,(ad255.add ((x5_1).toNat * 9)).off + 8,none⟩ = some (.slice A255_8 ((rd_T34 l1 x5_1).f8).length c255_8)) (ds := []) zb10_0 (by kernel_rfl) rfl rfl ⟨((HB.out.cell (World.block_lt_of_cell? w _ hw254_0)).trans hw254_0),((HB.out.cell (World.block_lt_of_cell? w _ hw254_1)).trans hw254_1),((HB.out.cell (World.block_lt_of_cell? w _ hw254_2)).trans hw254_2),((HB.out.cell (World.block_lt_of_cell? w _ hw254_3)).trans hw254_3),((HB.out.cell (World.block_lt_of_cell? w _ hw254_4)).trans hw254_4),((HB.out.cell (World.block_lt_of_cell? w _ hw254_5)).trans hw254_5),((HB.out.cell (World.block_lt_of_cell? w _ hw254_6)).trans hw254_6),((HB.out.cell (World.block_lt_of_cell? w _ hw254_7)).trans hw254_7),((HB.out.cell (World.block_lt_of_cell? w _ hw254_8)).trans hw254_8),((HB.out.cell (World.block_lt_of_cell? w _ hw255_0)).trans hw255_0),((HB.out.cell (World.block_lt_of_cell? w _ hw255_1)).trans hw255_1),((HB.out.cell (World.block_lt_of_cell? w _ hw255_2)).trans hw255_2),((HB.out.cell (World.block_lt_of_cell? w _ hw255_3)).trans hw255_3),((HB.out.cell (World.block_lt_of_cell? w _ hw255_4)).trans hw255_4),((HB.out.cell (World.block_lt_of_cell? w _ hw255_5)).trans hw255_5),((HB.out.cell (World.block_lt_of_cell? w _ hw255_6)).trans hw255_6),((HB.out.cell (World.block_lt_of_cell? w _ hw255_7)).trans hw255_7),((HB.out.cell (World.block_lt_of_cell? w _ hw255_8)).trans hw255_8)⟩ (fun hHeld => ?_); refine with_tabW laws_eqInodeS.tab6 laws_eqInodeS.bits6 (fun HT_ HW_ => ?_)
        generalize wr.drew = w11 at HB HR254_8 HR255_8 hx254_0 hx254_1 hx254_2 hx254_3 hx254_4 hx254_5 hx254_6 hx254_7 hx254_8 hx255_0 hx255_1 hx255_2 hx255_3 hx255_4 hx255_5 hx255_6 hx255_7 hx255_8 hHeld ⊢
        refine pure_ (i := 0) (N := some 17) (v := ?_) (a' := ?_) zb10_1 rfl rfl (any_of HT_.out (by kernel_rfl)) (fun _ _ _ h => h) (Or.inl ⟨by rfl,?_⟩) ?_ ?_
        rotate_left
        ·intro w'
         go_simp
         with_reducible rfl
        rotate_left
        ·simp only [Act.put,List.setIfInBounds_toArray,List.set_cons_zero,List.set_cons_succ,i64_w,i32_w]
         rfl
        refine pure_ (i := 1) (N := some 18) (v := ?_) (a' := ?_) zb10_2 rfl rfl (any_of HT_.out (by kernel_rfl)) (fun _ _ _ h => h) (Or.inl ⟨by rfl,?_⟩) ?_ ?_
        rotate_left
        ·intro w'
         go_simp
         with_reducible rfl
        rotate_left
        ·simp only [Act.put,List.setIfInBounds_toArray,List.set_cons_zero,List.set_cons_succ,i64_w,i32_w]
         rfl
        refine pure_ (i := 2) (N := some 19) (v := ?_) (a' := ?_) zb10_3 rfl rfl (any_of HT_.out (by kernel_rfl)) (fun _ _ _ h => h) (Or.inl ⟨by rfl,?_⟩) ?_ ?_
        rotate_left
        ·intro w'
         go_simp
         with_reducible rfl
        rotate_left
        ·simp only [Act.put,List.setIfInBounds_toArray,List.set_cons_zero,List.set_cons_succ,i64_w,i32_w]
         rfl
        refine pure_ (i := 4) (N := some 21) (v := ?_) (a' := ?_) zb10_4 rfl rfl (any_of HT_.out (by kernel_rfl)) (fun _ _ _ h => h) (Or.inl ⟨by rfl,?_⟩) ?_ ?_
        rotate_left
        ·intro w'
         go_simp
         with_reducible rfl
        rotate_left
        ·simp only [Act.put,List.setIfInBounds_toArray,List.set_cons_zero,List.set_cons_succ,i64_w,i32_w]
         rfl
        refine pure_ (i := 5) (N := some 22) (v := ?_) (a' := ?_) zb10_5 rfl rfl (any_of HT_.out (by kernel_rfl)) (fun _ _ _ h => h) (Or.inl ⟨by rfl,?_⟩) ?_ ?_
        rotate_left
        ·intro w'
         go_simp
         with_reducible rfl
        rotate_left
        ·simp only [Act.put,List.setIfInBounds_toArray,List.set_cons_zero,List.set_cons_succ,i64_w,i32_w]
         rfl
        refine pure_ (i := 6) (N := some 23) (v := ?_) (a' := ?_) zb10_6 rfl rfl (any_of HT_.out (by kernel_rfl)) (fun _ _ _ h => h) (Or.inl ⟨by rfl,?_⟩) ?_ ?_
        rotate_left
        ·intro w'
         go_simp
         with_reducible rfl
        rotate_left
        ·simp only [Act.put,List.setIfInBounds_toArray,List.set_cons_zero,List.set_cons_succ,i64_w,i32_w]
         rfl
        refine take_ (i := 3) (N := some 20) (v := ?_) (a' := ?_) zb10_7 rfl rfl (take_ofW HT_.out HW_.out (by kernel_rfl)) (fun _ _ _ h => h) (Or.inl ⟨by rfl,?_⟩) hHeld ?_ ?_
        rotate_left
        ·rintro w' ⟨s0,s1,s2,s3,s4,s5,s6,s7,s8,s9,s10,s11,s12,s13,s14,s15,s16,s17⟩
         go_simp
         with_reducible rfl
        rotate_left
        ·simp only [Act.put,List.setIfInBounds_toArray,List.set_cons_zero,List.set_cons_succ,i64_w,i32_w]
         rfl
        refine take_ (i := 7) (N := some 24) (v := ?_) (a' := ?_) zb10_8 rfl rfl (take_ofW HT_.out HW_.out (by kernel_rfl)) (fun _ _ _ h => h) (Or.inl ⟨by rfl,?_⟩) hHeld ?_ ?_
        rotate_left
        ·rintro w' ⟨s0,s1,s2,s3,s4,s5,s6,s7,s8,s9,s10,s11,s12,s13,s14,s15,s16,s17⟩
         go_simp
         with_reducible rfl
        rotate_left
        ·simp only [Act.put,List.setIfInBounds_toArray,List.set_cons_zero,List.set_cons_succ,i64_w,i32_w]
         rfl
        refine one_ (i := 8) (N := some 25) zb10_9 rfl rfl (one_of HT_.out (by kernel_rfl)) (by decide) (fun K hK => ?_)
        refine goes_ Try.func68 (by kernel_rfl) rfl #[.agg #[.int .i64 ((rd_T34 l0 x5_1).f0),.int .i64 ((rd_T34 l0 x5_1).f1),.int .i64 ((rd_T34 l0 x5_1).f2),.int .i64 ((rd_T34 l0 x5_1).f3),.int .i64 ((rd_T34 l0 x5_1).f4),.int .i64 ((rd_T34 l0 x5_1).f5),.bool ((rd_T34 l0 x5_1).f6),.string ((rd_T34 l0 x5_1).f7),.slice A254_8 ((rd_T34 l0 x5_1).f8).length c254_8],.agg #[.int .i64 ((rd_T34 l1 x5_1).f0),.int .i64 ((rd_T34 l1 x5_1).f1),.int .i64 ((rd_T34 l1 x5_1).f2),.int .i64 ((rd_T34 l1 x5_1).f3),.int .i64 ((rd_T34 l1 x5_1).f4),.int .i64 ((rd_T34 l1 x5_1).f5),.bool ((rd_T34 l1 x5_1).f6),.string ((rd_T34 l1 x5_1).f7),.slice A255_8 ((rd_T34 l1 x5_1).f8).length c255_8]] (by rfl) rfl rfl (by (try simp only [List.map_toArray,List.map_cons,List.map_nil]); first | done | rfl | (simp only [List.length_drop,List.length_take]; rfl)) ?_
        with_reducible refine (laws_eqInode.calls k1 ((rd_T34 l0 x5_1).f0) ((rd_T34 l0 x5_1).f1) ((rd_T34 l0 x5_1).f2) ((rd_T34 l0 x5_1).f3) ((rd_T34 l0 x5_1).f4) ((rd_T34 l0 x5_1).f5) ((rd_T34 l0 x5_1).f6) ((rd_T34 l0 x5_1).f7) _ _ ((rd_T34 l0 x5_1).f8) ((rd_T34 l1 x5_1).f0) ((rd_T34 l1 x5_1).f1) ((rd_T34 l1 x5_1).f2) ((rd_T34 l1 x5_1).f3) ((rd_T34 l1 x5_1).f4) ((rd_T34 l1 x5_1).f5) ((rd_T34 l1 x5_1).f6) ((rd_T34 l1 x5_1).f7) _ _ ((rd_T34 l1 x5_1).f8) false _ ?side1 ?side2 ?side3 ?side4 A7.out).mono ?_
        (case side1 => repeat (first | exact (Kd.C_below HR254_8.out HB.out) | (with_reducible refine Kd.C_alloc ?_ _) | (with_reducible refine Kd.C_drewN ?_ _) | (with_reducible refine Kd.C_drew ?_)));(case side2 => exact HC254_8.out);(case side3 => repeat (first | exact (Kd.C_below HR255_8.out HB.out) | (with_reducible refine Kd.C_alloc ?_ _) | (with_reducible refine Kd.C_drewN ?_ _) | (with_reducible refine Kd.C_drew ?_)));(case side4 => exact HC255_8.out)
        rintro e w12 ⟨rfl,hb⟩
        refine ⟨_,rfl,?_⟩
        have n0_ := Aside0.mk (below_step (by repeat (first | (with_reducible first | exact HB.out | apply yA | apply yN | apply yD) | exact HB.out)) hb);clear HB;have HB := n0_;clear n0_;(try clear hb);(try clear hb2);(try clear hk);(try clear hi)
        refine hK.out _ _ ⟨((HB.out.cell (World.block_lt_of_cell? w _ hw254_0)).trans hw254_0),((HB.out.cell (World.block_lt_of_cell? w _ hw254_1)).trans hw254_1),((HB.out.cell (World.block_lt_of_cell? w _ hw254_2)).trans hw254_2),((HB.out.cell (World.block_lt_of_cell? w _ hw254_3)).trans hw254_3),((HB.out.cell (World.block_lt_of_cell? w _ hw254_4)).trans hw254_4),((HB.out.cell (World.block_lt_of_cell? w _ hw254_5)).trans hw254_5),((HB.out.cell (World.block_lt_of_cell? w _ hw254_6)).trans hw254_6),((HB.out.cell (World.block_lt_of_cell? w _ hw254_7)).trans hw254_7),((HB.out.cell (World.block_lt_of_cell? w _ hw254_8)).trans hw254_8),((HB.out.cell (World.block_lt_of_cell? w _ hw255_0)).trans hw255_0),((HB.out.cell (World.block_lt_of_cell? w _ hw255_1)).trans hw255_1),((HB.out.cell (World.block_lt_of_cell? w _ hw255_2)).trans hw255_2),((HB.out.cell (World.block_lt_of_cell? w _ hw255_3)).trans hw255_3),((HB.out.cell (World.block_lt_of_cell? w _ hw255_4)).trans hw255_4),((HB.out.cell (World.block_lt_of_cell? w _ hw255_5)).trans hw255_5),((HB.out.cell (World.block_lt_of_cell? w _ hw255_6)).trans hw255_6),((HB.out.cell (World.block_lt_of_cell? w _ hw255_7)).trans hw255_7),((HB.out.cell (World.block_lt_of_cell? w _ hw255_8)).trans hw255_8)⟩ (fun hHeld => ?_)
        clear hK K
        refine norm_ (a' := ?_) ?_ ?_
        rotate_left
        ·show Act.put _ (some 25) _ = _
         simp only [Act.put,List.setIfInBounds_toArray,List.set_cons_zero,List.set_cons_succ,i64_w,i32_w]
         rfl
        refine pure_ (i := 9) (N := some 26) (v := ?_) (a' := ?_) zb10_10 rfl rfl (any_of HT_.out (by kernel_rfl)) (fun _ _ _ h => h) (Or.inl ⟨by rfl,?_⟩) ?_ ?_
        rotate_left
        ·intro w'
         go_simp
         with_reducible rfl
        rotate_left
        ·simp only [Act.put,List.setIfInBounds_toArray,List.set_cons_zero,List.set_cons_succ,i64_w,i32_w]
         rfl
        refine done_ (done_of HT_.out (by kernel_rfl)) ?_
        try go_wp2
        go_ret
        exact ⟨by first | rfl | (simp [errW_none,errW_some] <;> rfl) | (simp [*,errW_none,errW_some] <;> rfl),by repeat (first | (with_reducible first | exact HB.out | apply yA | apply yN | apply yD) | exact HB.out)⟩
      ·rw [if_neg c6] at H
       exact absurd H (by simp)
     ·rw [if_neg c5] at H
      exact absurd H (by simp)
    ·rw [if_neg c4] at H;have c4b0 : decide (x5_1 < (l0.length : Int)) = false := decide_eq_false c4;clear c4;obtain rfl := Option.some.inj H
     simp only [Option.some.injEq,Prod.mk.injEq] at H
     obtain ⟨rfl⟩ := H
     go_wp2
     go_ret
     exact ⟨by first | rfl | (simp [errW_none,errW_some] <;> rfl) | (simp [*,errW_none,errW_some] <;> rfl),by repeat (first | (with_reducible first | exact HB.out | apply yA | apply yN | apply yD) | exact HB.out)⟩
 ·rw [if_neg c3] at H;have c3b0 : ((l0.length : Int) == (l1.length : Int)) = false := beq_eq_false_iff_ne.mpr c3;have c3b1 : ((l0.length : Int) != (l1.length : Int)) = true := bne_iff_ne.mpr c3;(have c3b2 : (l0.length == l1.length) = false := by first | simpa using c3 | (simp at c3 ⊢; omega));obtain rfl := Option.some.inj H
  simp only [Option.some.injEq,Prod.mk.injEq] at H
  obtain ⟨rfl⟩ := H
  go_enter Try.func43,Try.ntmps43
  go_wp2
  go_ret
  exact ⟨by first | rfl | (simp [errW_none,errW_some] <;> rfl) | (simp [*,errW_none,errW_some] <;> rfl),by repeat (first | (with_reducible first | exact HB.out | apply yA | apply yN | apply yD) | exact HB.out)⟩

/-! ### laws_eqFs: function 18 -/
def laws_eqFs.f (k : Nat) (l0_0 : List (S34)) (l1_0 : List (S34)) : Option (Bool) := (laws_eqInodeS.f k l0_0 l1_0).bind fun t259 => (if t259 = true then (some true) else (some false))
theorem laws_eqFs.mono : ∀ a0 a1 k,LeO (laws_eqFs.f k a0 a1) (laws_eqFs.f (k + 1) a0 a1) := by
 intro a0 a1 k
 unfold laws_eqFs.f
 repeat' first
   | (with_reducible exact laws_eqInodeS.mono _ _ _)
   | (with_reducible exact LeO.refl _)
   | (with_reducible exact LeO.none _)
   | (with_reducible refine LeO.ite ?_ ?_)
   | (with_reducible refine LeO.bind ?_ (fun _ => ?_))
   | exact laws_eqInodeS.mono _ _ _
   | exact LeO.none _
   | refine LeO.ite ?_ ?_
   | refine LeO.bind ?_ (fun _ => ?_)
set_option maxHeartbeats 8000000 in
set_option maxRecDepth 100000 in
theorem laws_eqFs.calls (k : Nat) (A0_0 : Option Addr) (c0_0 : Nat) (l0_0 : List (S34)) (A1_0 : Option Addr) (c1_0 : Nat) (l1_0 : List (S34)) (r : Bool) (w : World) (hr0_0 : Kd.C k34 w A0_0 l0_0.length l0_0) (hc0_0 : l0_0.length ≤ c0_0) (hr1_0 : Kd.C k34 w A1_0 l1_0.length l1_0) (hc1_0 : l1_0.length ≤ c1_0) (h : laws_eqFs.f k l0_0 l1_0 = some r) :
  Calls Try.prog 18 #[.agg #[.slice A0_0 l0_0.length c0_0],.agg #[.slice A1_0 l1_0.length c1_0]] w fun e w' => e = .returned (.bool r) ∧ Below w.heap.size w w' := by
 have hu27 := Try.underlying27;have HR0_0 := Aside0.mk hr0_0;have HC0_0 := Aside0.mk hc0_0;clear hr0_0 hc0_0;have HR1_0 := Aside0.mk hr1_0;have HC1_0 := Aside0.mk hc1_0;clear hr1_0 hc1_0;have HB := Aside0.mk (Below.refl w.heap.size w);have H : ((laws_eqInodeS.f k l0_0 l1_0).bind fun t259 => (if t259 = true then (some true) else (some false))) = some r := h;clear h;replace H := Option.bind_eq_some_iff.mp H;obtain ⟨t259,A30,H⟩ := H;replace H : (if t259 = true then (some true) else (some false)) = some r := H;have A3 := Aside0.mk A30;clear A30;by_cases c4 : t259 = true
 ·subst c4;(have H1 : (some true) = some r := by rw [if_pos rfl] at H; exact H);clear H;have H := H1;clear H1;obtain rfl := Option.some.inj H
  simp only [Option.some.injEq,Prod.mk.injEq] at H
  obtain ⟨rfl⟩ := H
  go_enter Try.func18,Try.ntmps18
  go_wp2_with (first | ((with_reducible refine gate_dst (N := 2) rfl ?_); refine box_event ?hg (N := 2) ?hd (cs := #[.slice A0_0 l0_0.length c0_0]) (t := 27) ?hr ?_; (case hd => rfl); (case hg => rfl); (case hr => first | (go_simp; done) | (go_simp; rfl)); intro gb257 hg w5 hbox hb; have n0_ := Aside0.mk (below_step (by repeat (first | (with_reducible first | exact HB.out | apply yA | apply yN | apply yD) | exact HB.out)) hb); have n1_ := Aside0.mk (hbox); have n2_ := Aside0.mk ((by rw [hg]; exact (below_size (by repeat (first | (with_reducible first | exact HB.out | apply yA | apply yN | apply yD) | exact HB.out))) : w.heap.size ≤ gb257)); have n3_ := Aside0.mk ((by rw [hg]; exact (below_size (by repeat (first | (with_reducible first | exact HB.out | apply yA | apply yN | apply yD) | exact HB.out))) : w.heap.size ≤ gb257)); clear HB; have HB := n0_; have BK257 := n1_; have GW257 := n2_; have GE257 := n3_; clear n0_ n1_ n2_ n3_; clear hb hbox hg) | ((with_reducible refine gate_dst (N := 3) rfl ?_); refine box_event ?hg (N := 3) ?hd (cs := #[.slice A1_0 l1_0.length c1_0]) (t := 27) ?hr ?_; (case hd => rfl); (case hg => rfl); (case hr => first | (go_simp; done) | (go_simp; rfl)); intro gb258 hg w6 hbox hb; have n0_ := Aside0.mk (blk_below (g := gb257) (o := .cells #[.slice A0_0 l0_0.length c0_0] 27 (0,0)) (by (with_reducible repeat (first | refine zN ?_ _ | refine zD ?_ | refine zA ?_ _)); exact BK257.out) hb); have n1_ := Aside0.mk (below_step (by repeat (first | (with_reducible first | exact HB.out | apply yA | apply yN | apply yD | refine yS ?_ GE257.out) | exact HB.out)) hb); have n2_ := Aside0.mk (hbox); have n3_ := Aside0.mk ((by rw [hg]; exact (below_size (by repeat (first | (with_reducible first | exact HB.out | apply yA | apply yN | apply yD | refine yS ?_ GE257.out) | exact HB.out))) : w.heap.size ≤ gb258)); have n4_ := Aside0.mk ((by rw [hg]; exact (below_size (by repeat (first | (with_reducible first | exact HB.out | apply yA | apply yN | apply yD | refine yS ?_ GE257.out) | exact HB.out))) : w.heap.size ≤ gb258)); have n5_ := Aside0.mk ((by rw [hg]; exact Nat.ne_of_lt (blk_lt (g := gb257) (o := .cells #[.slice A0_0 l0_0.length c0_0] 27 (0,0)) (by (with_reducible repeat (first | refine zN ?_ _ | refine zD ?_ | refine zA ?_ _)); exact BK257.out)) : gb257 ≠ gb258)); have n6_ := Aside0.mk ((by rw [hg]; exact Nat.ne_of_gt (blk_lt (g := gb257) (o := .cells #[.slice A0_0 l0_0.length c0_0] 27 (0,0)) (by (with_reducible repeat (first | refine zN ?_ _ | refine zD ?_ | refine zA ?_ _)); exact BK257.out)) : gb258 ≠ gb257)); clear BK257; clear HB; have BK257 := n0_; have HB := n1_; have BK258 := n2_; have GW258 := n3_; have GE258 := n4_; have NB257_258 := n5_; have NB258_257 := n6_; clear n0_ n1_ n2_ n3_ n4_ n5_ n6_; clear hb hbox hg; have hnb7 := NB257_258.out; have hnc7 := NB258_257.out; have hcz8 := pk1 BK257.out; have hcz9 := pk1 BK258.out) | ((with_reducible refine gate_callee (f := 43) rfl ?_); refine goesL_ (some 9) rfl rfl Try.func43 (by kernel_rfl) rfl #[.slice A0_0 l0_0.length c0_0,.slice A1_0 l1_0.length c1_0] rfl (by (try simp only [List.map_toArray,List.map_cons,List.map_nil]); first | done | rfl | (simp only [List.length_drop,List.length_take]; rfl)) ?_; (with_reducible refine (laws_eqInodeS.calls k _ _ l0_0 _ _ l1_0 true _ ?side1 ?side2 ?side3 ?side4 A3.out).mono ?_); (case side1 => repeat (first | exact (Kd.C_below HR0_0.out HB.out) | (with_reducible refine Kd.C_alloc ?_ _) | (with_reducible refine Kd.C_drewN ?_ _) | (with_reducible refine Kd.C_drew ?_))); (case side2 => exact HC0_0.out); (case side3 => repeat (first | exact (Kd.C_below HR1_0.out HB.out) | (with_reducible refine Kd.C_alloc ?_ _) | (with_reducible refine Kd.C_drewN ?_ _) | (with_reducible refine Kd.C_drew ?_))); (case side4 => exact HC1_0.out); rintro e w10 ⟨rfl,hb⟩; refine ⟨_,rfl,?_⟩; have n0_ := Aside0.mk (blk_below (g := gb257) (o := .cells #[.slice A0_0 l0_0.length c0_0] 27 (0,0)) (by (with_reducible repeat (first | refine zN ?_ _ | refine zD ?_ | refine zA ?_ _)); exact BK257.out) hb); have n1_ := Aside0.mk (blk_below (g := gb258) (o := .cells #[.slice A1_0 l1_0.length c1_0] 27 (0,0)) (by (with_reducible repeat (first | refine zN ?_ _ | refine zD ?_ | refine zA ?_ _)); exact BK258.out) hb); have n2_ := Aside0.mk (below_step (by repeat (first | (with_reducible first | exact HB.out | apply yA | apply yN | apply yD | refine yS ?_ GE257.out | refine yS ?_ GE258.out) | exact HB.out)) hb); clear BK257; clear BK258; clear HB; have BK257 := n0_; have BK258 := n1_; have HB := n2_; clear n0_ n1_ n2_; (try clear hb); (try clear hb2); (try clear hk); (try clear hi)))
  go_ret
  exact ⟨by first | rfl | (simp [errW_none,errW_some] <;> rfl) | (simp [*,errW_none,errW_some] <;> rfl),by repeat (first | (with_reducible first | exact HB.out | apply yA | apply yN | apply yD | refine yS ?_ GE257.out | refine yS ?_ GE258.out) | exact HB.out)⟩
 ·replace c4 := Bool.eq_false_iff.mpr c4;subst c4;(have H1 : (some false) = some r := by rw [if_neg (show ¬ (false = true) by decide)] at H; exact H);clear H;have H := H1;clear H1;obtain rfl := Option.some.inj H
  simp only [Option.some.injEq,Prod.mk.injEq] at H
  obtain ⟨rfl⟩ := H
  go_enter Try.func18,Try.ntmps18
  go_wp2_with (first | ((with_reducible refine gate_dst (N := 2) rfl ?_); refine box_event ?hg (N := 2) ?hd (cs := #[.slice A0_0 l0_0.length c0_0]) (t := 27) ?hr ?_; (case hd => rfl); (case hg => rfl); (case hr => first | (go_simp; done) | (go_simp; rfl)); intro gb257 hg w11 hbox hb; have n0_ := Aside0.mk (below_step (by repeat (first | (with_reducible first | exact HB.out | apply yA | apply yN | apply yD) | exact HB.out)) hb); have n1_ := Aside0.mk (hbox); have n2_ := Aside0.mk ((by rw [hg]; exact (below_size (by repeat (first | (with_reducible first | exact HB.out | apply yA | apply yN | apply yD) | exact HB.out))) : w.heap.size ≤ gb257)); have n3_ := Aside0.mk ((by rw [hg]; exact (below_size (by repeat (first | (with_reducible first | exact HB.out | apply yA | apply yN | apply yD) | exact HB.out))) : w.heap.size ≤ gb257)); clear HB; have HB := n0_; have BK257 := n1_; have GW257 := n2_; have GE257 := n3_; clear n0_ n1_ n2_ n3_; clear hb hbox hg) | ((with_reducible refine gate_dst (N := 3) rfl ?_); refine box_event ?hg (N := 3) ?hd (cs := #[.slice A1_0 l1_0.length c1_0]) (t := 27) ?hr ?_; (case hd => rfl); (case hg => rfl); (case hr => first | (go_simp; done) | (go_simp; rfl)); intro gb258 hg w12 hbox hb; have n0_ := Aside0.mk (blk_below (g := gb257) (o := .cells #[.slice A0_0 l0_0.length c0_0] 27 (0,0)) (by (with_reducible repeat (first | refine zN ?_ _ | refine zD ?_ | refine zA ?_ _)); exact BK257.out) hb); have n1_ := Aside0.mk (below_step (by repeat (first | (with_reducible first | exact HB.out | apply yA | apply yN | apply yD | refine yS ?_ GE257.out) | exact HB.out)) hb); have n2_ := Aside0.mk (hbox); have n3_ := Aside0.mk ((by rw [hg]; exact (below_size (by repeat (first | (with_reducible first | exact HB.out | apply yA | apply yN | apply yD | refine yS ?_ GE257.out) | exact HB.out))) : w.heap.size ≤ gb258)); have n4_ := Aside0.mk ((by rw [hg]; exact (below_size (by repeat (first | (with_reducible first | exact HB.out | apply yA | apply yN | apply yD | refine yS ?_ GE257.out) | exact HB.out))) : w.heap.size ≤ gb258)); have n5_ := Aside0.mk ((by rw [hg]; exact Nat.ne_of_lt (blk_lt (g := gb257) (o := .cells #[.slice A0_0 l0_0.length c0_0] 27 (0,0)) (by (with_reducible repeat (first | refine zN ?_ _ | refine zD ?_ | refine zA ?_ _)); exact BK257.out)) : gb257 ≠ gb258)); have n6_ := Aside0.mk ((by rw [hg]; exact Nat.ne_of_gt (blk_lt (g := gb257) (o := .cells #[.slice A0_0 l0_0.length c0_0] 27 (0,0)) (by (with_reducible repeat (first | refine zN ?_ _ | refine zD ?_ | refine zA ?_ _)); exact BK257.out)) : gb258 ≠ gb257)); clear BK257; clear HB; have BK257 := n0_; have HB := n1_; have BK258 := n2_; have GW258 := n3_; have GE258 := n4_; have NB257_258 := n5_; have NB258_257 := n6_; clear n0_ n1_ n2_ n3_ n4_ n5_ n6_; clear hb hbox hg; have hnb13 := NB257_258.out; have hnc13 := NB258_257.out; have hcz14 := pk1 BK257.out; have hcz15 := pk1 BK258.out) | ((with_reducible refine gate_callee (f := 43) rfl ?_); refine goesL_ (some 9) rfl rfl Try.func43 (by kernel_rfl) rfl #[.slice A0_0 l0_0.length c0_0,.slice A1_0 l1_0.length c1_0] rfl (by (try simp only [List.map_toArray,List.map_cons,List.map_nil]); first | done | rfl | (simp only [List.length_drop,List.length_take]; rfl)) ?_; (with_reducible refine (laws_eqInodeS.calls k _ _ l0_0 _ _ l1_0 false _ ?side1 ?side2 ?side3 ?side4 A3.out).mono ?_); (case side1 => repeat (first | exact (Kd.C_below HR0_0.out HB.out) | (with_reducible refine Kd.C_alloc ?_ _) | (with_reducible refine Kd.C_drewN ?_ _) | (with_reducible refine Kd.C_drew ?_))); (case side2 => exact HC0_0.out); (case side3 => repeat (first | exact (Kd.C_below HR1_0.out HB.out) | (with_reducible refine Kd.C_alloc ?_ _) | (with_reducible refine Kd.C_drewN ?_ _) | (with_reducible refine Kd.C_drew ?_))); (case side4 => exact HC1_0.out); rintro e w16 ⟨rfl,hb⟩; refine ⟨_,rfl,?_⟩; have n0_ := Aside0.mk (blk_below (g := gb257) (o := .cells #[.slice A0_0 l0_0.length c0_0] 27 (0,0)) (by (with_reducible repeat (first | refine zN ?_ _ | refine zD ?_ | refine zA ?_ _)); exact BK257.out) hb); have n1_ := Aside0.mk (blk_below (g := gb258) (o := .cells #[.slice A1_0 l1_0.length c1_0] 27 (0,0)) (by (with_reducible repeat (first | refine zN ?_ _ | refine zD ?_ | refine zA ?_ _)); exact BK258.out) hb); have n2_ := Aside0.mk (below_step (by repeat (first | (with_reducible first | exact HB.out | apply yA | apply yN | apply yD | refine yS ?_ GE257.out | refine yS ?_ GE258.out) | exact HB.out)) hb); clear BK257; clear BK258; clear HB; have BK257 := n0_; have BK258 := n1_; have HB := n2_; clear n0_ n1_ n2_; (try clear hb); (try clear hb2); (try clear hk); (try clear hi)))
  go_ret
  exact ⟨by first | rfl | (simp [errW_none,errW_some] <;> rfl) | (simp [*,errW_none,errW_some] <;> rfl),by repeat (first | (with_reducible first | exact HB.out | apply yA | apply yN | apply yD | refine yS ?_ GE257.out | refine yS ?_ GE258.out) | exact HB.out)⟩

/-! ### laws_FnExactFsOk: function 4 -/
def laws_FnExactFsOk.f (k : Nat) (l0_0 : List (S100)) : Option (Bool) := (laws_szFs.f k l0_0 1048576).bind fun t261 => (if t261 < 0 then (some true) else ((laws_toFs.f k l0_0).bind fun t262 => ((spec_FsOk.f k t262).bind fun t265 => ((laws_toFs.f k l0_0).bind fun t266 => ((impl_FsOk.f k t266).bind fun t270 => (if (t270 != t265) = true then (some false) else ((laws_toFs.f k l0_0).bind fun t271 => ((laws_eqFs.f k t266 t271).bind fun t274 => (if t274 = true then (some true) else (some false))))))))))
theorem laws_FnExactFsOk.mono : ∀ a0 k,LeO (laws_FnExactFsOk.f k a0) (laws_FnExactFsOk.f (k + 1) a0) := by
 intro a0 k
 unfold laws_FnExactFsOk.f
 repeat' first
   | (with_reducible exact impl_FsOk.mono _ _)
   | (with_reducible exact laws_eqFs.mono _ _ _)
   | (with_reducible exact laws_szFs.mono _ _ _)
   | (with_reducible exact laws_toFs.mono _ _)
   | (with_reducible exact spec_FsOk.mono _ _)
   | (with_reducible exact LeO.refl _)
   | (with_reducible exact LeO.none _)
   | (with_reducible refine LeO.ite ?_ ?_)
   | (with_reducible refine LeO.bind ?_ (fun _ => ?_))
   | exact impl_FsOk.mono _ _
   | exact laws_eqFs.mono _ _ _
   | exact laws_szFs.mono _ _ _
   | exact laws_toFs.mono _ _
   | exact spec_FsOk.mono _ _
   | exact LeO.none _
   | refine LeO.ite ?_ ?_
   | refine LeO.bind ?_ (fun _ => ?_)
set_option maxHeartbeats 8000000 in
set_option maxRecDepth 100000 in
theorem laws_FnExactFsOk.calls (k : Nat) (A0_0 : Option Addr) (c0_0 : Nat) (l0_0 : List (S100)) (r : Bool) (w : World) (hr0_0 : Kd.C k100 w A0_0 l0_0.length l0_0) (hc0_0 : l0_0.length ≤ c0_0) (h : laws_FnExactFsOk.f k l0_0 = some r) (hr_ : r = true) :
  Calls Try.prog 4 #[.agg #[.slice A0_0 l0_0.length c0_0]] w fun e w' => e = .returned (.bool r) ∧ Below w.heap.size w w' := by
 have hu38 := Try.underlying38;have hu27 := Try.underlying27;have HR0_0 := Aside0.mk hr0_0;have HC0_0 := Aside0.mk hc0_0;clear hr0_0 hc0_0;have HB := Aside0.mk (Below.refl w.heap.size w);have H : ((laws_szFs.f k l0_0 1048576).bind fun t261 => (if t261 < 0 then (some true) else ((laws_toFs.f k l0_0).bind fun t262 => ((spec_FsOk.f k t262).bind fun t265 => ((laws_toFs.f k l0_0).bind fun t266 => ((impl_FsOk.f k t266).bind fun t270 => (if (t270 != t265) = true then (some false) else ((laws_toFs.f k l0_0).bind fun t271 => ((laws_eqFs.f k t266 t271).bind fun t274 => (if t274 = true then (some true) else (some false))))))))))) = some r := h;clear h;replace H := Option.bind_eq_some_iff.mp H;obtain ⟨t261,A20,H⟩ := H;replace H : (if t261 < 0 then (some true) else ((laws_toFs.f k l0_0).bind fun t262 => ((spec_FsOk.f k t262).bind fun t265 => ((laws_toFs.f k l0_0).bind fun t266 => ((impl_FsOk.f k t266).bind fun t270 => (if (t270 != t265) = true then (some false) else ((laws_toFs.f k l0_0).bind fun t271 => ((laws_eqFs.f k t266 t271).bind fun t274 => (if t274 = true then (some true) else (some false)))))))))) = some r := H;have A2 := Aside0.mk A20;clear A20;by_cases c3 : t261 < 0
 ·rw [if_pos c3] at H;have c3b0 : decide (t261 < 0) = true := decide_eq_true c3;clear c3;obtain rfl := Option.some.inj H
  simp only [Option.some.injEq,Prod.mk.injEq] at H
  obtain ⟨rfl⟩ := H
  go_enter Try.func4,Try.ntmps4
  go_wp2_with (first | ((with_reducible refine gate_dst (N := 1) rfl ?_); refine box_event ?hg (N := 1) ?hd (cs := #[.slice A0_0 l0_0.length c0_0]) (t := 38) ?hr ?_; (case hd => rfl); (case hg => rfl); (case hr => first | (go_simp; done) | (go_simp; rfl)); intro gb260 hg w4 hbox hb; have n0_ := Aside0.mk (below_step (by repeat (first | (with_reducible first | exact HB.out | apply yA | apply yN | apply yD) | exact HB.out)) hb); have n1_ := Aside0.mk (hbox); have n2_ := Aside0.mk ((by rw [hg]; exact (below_size (by repeat (first | (with_reducible first | exact HB.out | apply yA | apply yN | apply yD) | exact HB.out))) : w.heap.size ≤ gb260)); have n3_ := Aside0.mk ((by rw [hg]; exact (below_size (by repeat (first | (with_reducible first | exact HB.out | apply yA | apply yN | apply yD) | exact HB.out))) : w.heap.size ≤ gb260)); clear HB; have HB := n0_; have BK260 := n1_; have GW260 := n2_; have GE260 := n3_; clear n0_ n1_ n2_ n3_; clear hb hbox hg; have hcz5 := pk1 BK260.out) | ((with_reducible refine gate_callee (f := 15) rfl ?_); refine goesL_ (some 9) rfl rfl Try.func15 (by kernel_rfl) rfl #[.agg #[.slice A0_0 l0_0.length c0_0],.int .i64 1048576] rfl (by (try simp only [List.map_toArray,List.map_cons,List.map_nil]); first | done | rfl | (simp only [List.length_drop,List.length_take]; rfl)) ?_; (with_reducible refine (laws_szFs.calls k _ _ l0_0 1048576 t261 _ ?side1 ?side2 A2.out).mono ?_); (case side1 => repeat (first | exact (Kd.C_below HR0_0.out HB.out) | (with_reducible refine Kd.C_alloc ?_ _) | (with_reducible refine Kd.C_drewN ?_ _) | (with_reducible refine Kd.C_drew ?_))); (case side2 => exact HC0_0.out); rintro e w6 ⟨rfl,hb⟩; refine ⟨_,rfl,?_⟩; have n0_ := Aside0.mk (blk_below (g := gb260) (o := .cells #[.slice A0_0 l0_0.length c0_0] 38 (0,0)) (by (with_reducible repeat (first | refine zN ?_ _ | refine zD ?_ | refine zA ?_ _)); exact BK260.out) hb); have n1_ := Aside0.mk (below_step (by repeat (first | (with_reducible first | exact HB.out | apply yA | apply yN | apply yD | refine yS ?_ GE260.out) | exact HB.out)) hb); clear BK260; clear HB; have BK260 := n0_; have HB := n1_; clear n0_ n1_; (try clear hb); (try clear hb2); (try clear hk); (try clear hi)))
  go_ret
  exact ⟨by first | rfl | (simp [errW_none,errW_some] <;> rfl) | (simp [*,errW_none,errW_some] <;> rfl),by repeat (first | (with_reducible first | exact HB.out | apply yA | apply yN | apply yD | refine yS ?_ GE260.out) | exact HB.out)⟩
 ·rw [if_neg c3] at H;have c3b0 : decide (t261 < 0) = false := decide_eq_false c3;clear c3;replace H := Option.bind_eq_some_iff.mp H;obtain ⟨t262,A70,H⟩ := H;replace H : ((spec_FsOk.f k t262).bind fun t265 => ((laws_toFs.f k l0_0).bind fun t266 => ((impl_FsOk.f k t266).bind fun t270 => (if (t270 != t265) = true then (some false) else ((laws_toFs.f k l0_0).bind fun t271 => ((laws_eqFs.f k t266 t271).bind fun t274 => (if t274 = true then (some true) else (some false)))))))) = some r := H;have A7 := Aside0.mk A70;clear A70;replace H := Option.bind_eq_some_iff.mp H;obtain ⟨t265,A80,H⟩ := H;replace H : ((laws_toFs.f k l0_0).bind fun t266 => ((impl_FsOk.f k t266).bind fun t270 => (if (t270 != t265) = true then (some false) else ((laws_toFs.f k l0_0).bind fun t271 => ((laws_eqFs.f k t266 t271).bind fun t274 => (if t274 = true then (some true) else (some false))))))) = some r := H;have A8 := Aside0.mk A80;clear A80;replace H := Option.bind_eq_some_iff.mp H;obtain ⟨t266,A90,H⟩ := H;replace H : ((impl_FsOk.f k t266).bind fun t270 => (if (t270 != t265) = true then (some false) else ((laws_toFs.f k l0_0).bind fun t271 => ((laws_eqFs.f k t266 t271).bind fun t274 => (if t274 = true then (some true) else (some false)))))) = some r := H;have A9 := Aside0.mk A90;clear A90;replace H := Option.bind_eq_some_iff.mp H;obtain ⟨t270,A100,H⟩ := H;replace H : (if (t270 != t265) = true then (some false) else ((laws_toFs.f k l0_0).bind fun t271 => ((laws_eqFs.f k t266 t271).bind fun t274 => (if t274 = true then (some true) else (some false))))) = some r := H
  have A10 := Aside0.mk A100;clear A100;by_cases c11 : (t270 != t265) = true
  ·rw [if_pos c11] at H;have c11b0 : (t270 != t265) = true := c11;(try (have c11b1 : decide (t270 = t265) = false := by simpa using c11));(try (have c11b2 : (t270 == t265) = false := by simpa using c11));(try (have c11b3 : ¬ (t270 = t265) := by simpa using c11));clear c11;obtain rfl := Option.some.inj H
   cases hr_
  ·rw [if_neg c11] at H;(have c11b0 : (t270 != t265) = false := by simpa using c11);(try (have c11b1 : decide (t270 = t265) = true := by simpa using c11));(try (have c11b2 : (t270 == t265) = true := by simpa using c11));clear c11;replace H := Option.bind_eq_some_iff.mp H;obtain ⟨t271,A120,H⟩ := H;replace H : ((laws_eqFs.f k t266 t271).bind fun t274 => (if t274 = true then (some true) else (some false))) = some r := H;have A12 := Aside0.mk A120;clear A120;replace H := Option.bind_eq_some_iff.mp H;obtain ⟨t274,A130,H⟩ := H;replace H : (if t274 = true then (some true) else (some false)) = some r := H;have A13 := Aside0.mk A130;clear A130;by_cases c14 : t274 = true
   ·subst c14;(have H1 : (some true) = some r := by rw [if_pos rfl] at H; exact H);clear H;have H := H1;clear H1;obtain rfl := Option.some.inj H
    simp only [Option.some.injEq,Prod.mk.injEq] at H
    obtain ⟨rfl⟩ := H
    go_enter Try.func4,Try.ntmps4
    try go_wp2_with (first | ((with_reducible refine gate_dst (N := 1) rfl ?_); refine box_event ?hg (N := 1) ?hd (cs := #[.slice A0_0 l0_0.length c0_0]) (t := 38) ?hr ?_; (case hd => rfl); (case hg => rfl); (case hr => first | (go_simp; done) | (go_simp; rfl)); intro gb260 hg w15 hbox hb; have n0_ := Aside0.mk (below_step (by repeat (first | (with_reducible first | exact HB.out | apply yA | apply yN | apply yD) | exact HB.out)) hb); have n1_ := Aside0.mk (hbox); have n2_ := Aside0.mk ((by rw [hg]; exact (below_size (by repeat (first | (with_reducible first | exact HB.out | apply yA | apply yN | apply yD) | exact HB.out))) : w.heap.size ≤ gb260)); have n3_ := Aside0.mk ((by rw [hg]; exact (below_size (by repeat (first | (with_reducible first | exact HB.out | apply yA | apply yN | apply yD) | exact HB.out))) : w.heap.size ≤ gb260)); clear HB; have HB := n0_; have BK260 := n1_; have GW260 := n2_; have GE260 := n3_; clear n0_ n1_ n2_ n3_; clear hb hbox hg; have hcz16 := pk1 BK260.out) | ((with_reducible refine gate_callee (f := 15) rfl ?_); refine goesL_ (some 9) rfl rfl Try.func15 (by kernel_rfl) rfl #[.agg #[.slice A0_0 l0_0.length c0_0],.int .i64 1048576] rfl (by (try simp only [List.map_toArray,List.map_cons,List.map_nil]); first | done | rfl | (simp only [List.length_drop,List.length_take]; rfl)) ?_; (with_reducible refine (laws_szFs.calls k _ _ l0_0 1048576 t261 _ ?side1 ?side2 A2.out).mono ?_); (case side1 => repeat (first | exact (Kd.C_below HR0_0.out HB.out) | (with_reducible refine Kd.C_alloc ?_ _) | (with_reducible refine Kd.C_drewN ?_ _) | (with_reducible refine Kd.C_drew ?_))); (case side2 => exact HC0_0.out); rintro e w17 ⟨rfl,hb⟩; refine ⟨_,rfl,?_⟩; have n0_ := Aside0.mk (blk_below (g := gb260) (o := .cells #[.slice A0_0 l0_0.length c0_0] 38 (0,0)) (by (with_reducible repeat (first | refine zN ?_ _ | refine zD ?_ | refine zA ?_ _)); exact BK260.out) hb); have n1_ := Aside0.mk (below_step (by repeat (first | (with_reducible first | exact HB.out | apply yA | apply yN | apply yD | refine yS ?_ GE260.out) | exact HB.out)) hb); clear BK260; clear HB; have BK260 := n0_; have HB := n1_; clear n0_ n1_; (try clear hb); (try clear hb2); (try clear hk); (try clear hi); have hcz18 := pk1 BK260.out) | ((with_reducible refine gate_callee (f := 17) rfl ?_); refine goesL_ (some 13) rfl rfl Try.func17 (by kernel_rfl) rfl #[.agg #[.slice A0_0 l0_0.length c0_0]] rfl (by (try simp only [List.map_toArray,List.map_cons,List.map_nil]); first | done | rfl | (simp only [List.length_drop,List.length_take]; rfl)) ?_; (with_reducible refine (laws_toFs.calls k _ _ l0_0 t262 _ ?side1 ?side2 A7.out).mono ?_); (case side1 => repeat (first | exact (Kd.C_below HR0_0.out HB.out) | (with_reducible refine Kd.C_alloc ?_ _) | (with_reducible refine Kd.C_drewN ?_ _) | (with_reducible refine Kd.C_drew ?_))); (case side2 => exact HC0_0.out); rintro e w19 ⟨v263,rfl,ho0,hb⟩; refine ⟨_,rfl,?_⟩; have n0_ := Aside0.mk (Kd.S_lower ho0 (below_size (by repeat (first | (with_reducible first | exact HB.out | apply yA | apply yN | apply yD | refine yS ?_ GE260.out) | exact HB.out)))); have n1_ := Aside0.mk (blk_below (g := gb260) (o := .cells #[.slice A0_0 l0_0.length c0_0] 38 (0,0)) (by (with_reducible repeat (first | refine zN ?_ _ | refine zD ?_ | refine zA ?_ _)); exact BK260.out) hb); have n2_ := Aside0.mk (below_step (by repeat (first | (with_reducible first | exact HB.out | apply yA | apply yN | apply yD | refine yS ?_ GE260.out) | exact HB.out)) hb); clear BK260; clear HB; have HO264 := n0_; have BK260 := n1_; have HB := n2_; clear n0_ n1_ n2_; (try clear hb); (try clear hb2); (try clear hk); (try clear hi); (try clear ho0); obtain ⟨Ao20,co20,eo20⟩ := Kd.S_slice HO264.out; subst eo20) | ((with_reducible refine gate_callee (f := 16) rfl ?_); refine goesL_ (some 14) rfl rfl Try.func16 (by kernel_rfl) rfl #[.agg #[.slice Ao20 t262.length co20]] rfl (by (try simp only [List.map_toArray,List.map_cons,List.map_nil]); first | done | rfl | (simp only [List.length_drop,List.length_take]; rfl)) ?_; (with_reducible refine (spec_FsOk.calls k _ _ t262 t265 _ ?side1 ?side2 A8.out).mono ?_); (case side1 => repeat (first | exact (Kd.S_reads' HO264.out).2.2 | (with_reducible refine Kd.C_alloc ?_ _) | (with_reducible refine Kd.C_drewN ?_ _) | (with_reducible refine Kd.C_drew ?_))); (case side2 => exact (Kd.S_reads' HO264.out).2.1); rintro e w21 ⟨rfl,hb⟩; refine ⟨_,rfl,?_⟩; have n0_ := Aside0.mk (Kd.S_below (by (with_reducible repeat (first | apply Kd.S_alloc | apply Kd.S_drewN | apply Kd.S_drew)); exact HO264.out) hb); have n1_ := Aside0.mk (blk_below (g := gb260) (o := .cells #[.slice A0_0 l0_0.length c0_0] 38 (0,0)) (by (with_reducible repeat (first | refine zN ?_ _ | refine zD ?_ | refine zA ?_ _)); exact BK260.out) hb); have n2_ := Aside0.mk (below_step (by repeat (first | (with_reducible first | exact HB.out | apply yA | apply yN | apply yD | refine yS ?_ GE260.out) | exact HB.out)) hb); clear HO264; clear BK260; clear HB; have HO264 := n0_; have BK260 := n1_; have HB := n2_; clear n0_ n1_ n2_; (try clear hb); (try clear hb2); (try clear hk); (try clear hi); have hcz22 := pk1 BK260.out) | ((with_reducible refine gate_callee (f := 17) rfl ?_); refine goesL_ (some 16) rfl rfl Try.func17 (by kernel_rfl) rfl #[.agg #[.slice A0_0 l0_0.length c0_0]] rfl (by (try simp only [List.map_toArray,List.map_cons,List.map_nil]); first | done | rfl | (simp only [List.length_drop,List.length_take]; rfl)) ?_; (with_reducible refine (laws_toFs.calls k _ _ l0_0 t266 _ ?side1 ?side2 A9.out).mono ?_); (case side1 => repeat (first | exact (Kd.C_below HR0_0.out HB.out) | (with_reducible refine Kd.C_alloc ?_ _) | (with_reducible refine Kd.C_drewN ?_ _) | (with_reducible refine Kd.C_drew ?_))); (case side2 => exact HC0_0.out); rintro e w23 ⟨v267,rfl,ho0,hb⟩; refine ⟨_,rfl,?_⟩; have n0_ := Aside0.mk (Kd.S_elder' (by (with_reducible repeat (first | apply Kd.S_alloc | apply Kd.S_drewN | apply Kd.S_drew)); exact HO264.out) (Kd.S_base ho0) hb); have n1_ := Aside0.mk (Kd.S_lower (Kd.S_new' ho0 (Kd.S_lt (by (with_reducible repeat (first | apply Kd.S_alloc | apply Kd.S_drewN | apply Kd.S_drew)); exact HO264.out))) (below_size (by repeat (first | (with_reducible first | exact HB.out | apply yA | apply yN | apply yD | refine yS ?_ GE260.out) | exact HB.out)))); have n2_ := Aside0.mk (blk_below (g := gb260) (o := .cells #[.slice A0_0 l0_0.length c0_0] 38 (0,0)) (by (with_reducible repeat (first | refine zN ?_ _ | refine zD ?_ | refine zA ?_ _)); exact BK260.out) hb); have n3_ := Aside0.mk (below_step (by repeat (first | (with_reducible first | exact HB.out | apply yA | apply yN | apply yD | refine yS ?_ GE260.out) | exact HB.out)) hb); clear HO264; clear BK260; clear HB; have HO264 := n0_; have HO268 := n1_; have BK260 := n2_; have HB := n3_; clear n0_ n1_ n2_ n3_; (try clear hb); (try clear hb2); (try clear hk); (try clear hi); (try clear ho0)) | ((with_reducible refine gate_dst (N := 5) rfl ?_); refine box_event ?hg (N := 5) ?hd (cs := #[.slice none 0 0]) (t := 27) ?hr ?_; (case hd => rfl); (case hg => rfl); (case hr => first | (go_simp; done) | (go_simp; rfl)); intro gb269 hg w24 hbox hb; have n0_ := Aside0.mk (Kd.S_below (by (with_reducible repeat (first | apply Kd.S_alloc | apply Kd.S_drewN | apply Kd.S_drew)); exact HO264.out) hb); have n1_ := Aside0.mk (Kd.S_below (by (with_reducible repeat (first | apply Kd.S_alloc | apply Kd.S_drewN | apply Kd.S_drew)); exact HO268.out) hb); have n2_ := Aside0.mk (blk_below (g := gb260) (o := .cells #[.slice A0_0 l0_0.length c0_0] 38 (0,0)) (by (with_reducible repeat (first | refine zN ?_ _ | refine zD ?_ | refine zA ?_ _)); exact BK260.out) hb); have n3_ := Aside0.mk (below_step (by repeat (first | (with_reducible first | exact HB.out | apply yA | apply yN | apply yD | refine yS ?_ GE260.out) | exact HB.out)) hb); have n4_ := Aside0.mk (hbox); have n5_ := Aside0.mk ((by rw [hg]; exact (below_size (by repeat (first | (with_reducible first | exact HB.out | apply yA | apply yN | apply yD | refine yS ?_ GE260.out) | exact HB.out))) : w.heap.size ≤ gb269)); have n6_ := Aside0.mk ((by rw [hg]; exact (below_size (by repeat (first | (with_reducible first | exact HB.out | apply yA | apply yN | apply yD | refine yS ?_ GE260.out) | exact HB.out))) : w.heap.size ≤ gb269)); have n7_ := Aside0.mk ((by rw [hg]; exact Nat.ne_of_lt (blk_lt (g := gb260) (o := .cells #[.slice A0_0 l0_0.length c0_0] 38 (0,0)) (by (with_reducible repeat (first | refine zN ?_ _ | refine zD ?_ | refine zA ?_ _)); exact BK260.out)) : gb260 ≠ gb269)); have n8_ := Aside0.mk ((by rw [hg]; exact Nat.ne_of_gt (blk_lt (g := gb260) (o := .cells #[.slice A0_0 l0_0.length c0_0] 38 (0,0)) (by (with_reducible repeat (first | refine zN ?_ _ | refine zD ?_ | refine zA ?_ _)); exact BK260.out)) : gb269 ≠ gb260)); clear HO264; clear HO268; clear BK260; clear HB; have HO264 := n0_; have HO268 := n1_; have BK260 := n2_; have HB := n3_; have BK269 := n4_; have GW269 := n5_; have GE269 := n6_; have NB260_269 := n7_; have NB269_260 := n8_; clear n0_ n1_ n2_ n3_ n4_ n5_ n6_ n7_ n8_; clear hb hbox hg; obtain ⟨Ao25,co25,eo25⟩ := Kd.S_slice HO268.out; subst eo25; have hnb26 := NB269_260.out; have hnc26 := NB260_269.out; have hcz27 := pk1 BK269.out) | ((with_reducible refine gate_callee (f := 14) rfl ?_); refine goesL_ (some 18) rfl rfl Try.func14 (by kernel_rfl) rfl #[.agg #[.slice Ao25 t266.length co25]] rfl (by (try simp only [List.map_toArray,List.map_cons,List.map_nil]); first | done | rfl | (simp only [List.length_drop,List.length_take]; rfl)) ?_; (with_reducible refine (impl_FsOk.calls k _ _ t266 t270 _ ?side1 ?side2 A10.out).mono ?_); (case side1 => refine (Kd.S_reads' (e := 34) (base := w.heap.size) (ok := fun k_ => (True ∧ some k_ ≠ (.slice Ao20 t262.length co20 : Value).ownBlock)) (n := t266.length) (c := co25) ?_).2.2; exact (by (with_reducible repeat (first | apply Kd.S_alloc | apply Kd.S_drewN | apply Kd.S_drew)); exact (Kd.S_mono (Kd.S_far (p := ⟨gb269,0,none⟩) (Kd.S_types HO268.out BK269.out (by decide)) (fun _ hk => hk.2) (.slice Ao25 t266.length co25)) (fun _ h_ => h_.1)))); (case side2 => exact (Kd.S_reads' HO268.out).2.1); rintro e w28 ⟨rfl,hb⟩; refine ⟨_,rfl,?_⟩; have n0_ := Aside0.mk (Kd.S_below (by (with_reducible repeat (first | apply Kd.S_alloc | apply Kd.S_drewN | apply Kd.S_drew)); exact (Kd.S_mono (Kd.S_far (p := ⟨gb269,0,none⟩) (Kd.S_types HO264.out BK269.out (by decide)) (fun _ hk => hk.2) (.slice Ao25 t266.length co25)) (fun _ h_ => h_.1))) hb); have n1_ := Aside0.mk (Kd.S_below (by (with_reducible repeat (first | apply Kd.S_alloc | apply Kd.S_drewN | apply Kd.S_drew)); exact (Kd.S_mono (Kd.S_far (p := ⟨gb269,0,none⟩) (Kd.S_types HO268.out BK269.out (by decide)) (fun _ hk => hk.2) (.slice Ao25 t266.length co25)) (fun _ h_ => h_.1))) hb); have n2_ := Aside0.mk (blk_below (g := gb260) (o := .cells #[.slice A0_0 l0_0.length c0_0] 38 (0,0)) (by (with_reducible repeat (first | refine zN ?_ _ | refine zD ?_ | refine zA ?_ _)); refine blk_far ?_ NB260_269.out _; (with_reducible repeat (first | refine zN ?_ _ | refine zD ?_ | refine zA ?_ _)); exact BK260.out) hb); have n3_ := Aside0.mk (blk_below (g := gb269) (o := .cells #[.slice Ao25 t266.length co25] 27 (0,0)) (by (with_reducible repeat (first | refine zN ?_ _ | refine zD ?_ | refine zA ?_ _)); refine blk_put (cs := #[.slice none 0 0]) ?_ 0 _ rfl; (with_reducible repeat (first | refine zN ?_ _ | refine zD ?_ | refine zA ?_ _)); exact BK269.out) hb); have n4_ := Aside0.mk (below_step (by repeat (first | (with_reducible first | exact HB.out | apply yA | apply yN | apply yD | refine yS ?_ GE260.out | refine yS ?_ GE269.out) | exact HB.out)) hb); clear HO264; clear HO268; clear BK260; clear BK269; clear HB; have HO264 := n0_; have HO268 := n1_; have BK260 := n2_; have BK269 := n3_; have HB := n4_; clear n0_ n1_ n2_ n3_ n4_; (try clear hb); (try clear hb2); (try clear hk); (try clear hi)))
    have n0_ := Aside0.mk (Kd.S_drew HO264.out);have n1_ := Aside0.mk (Kd.S_drew HO268.out);have n2_ := Aside0.mk (zD BK260.out);have n3_ := Aside0.mk (zD BK269.out);have n4_ := Aside0.mk (yD HB.out);clear HO264;clear HO268;clear BK260;clear BK269;clear HB;have HO264 := n0_;have HO268 := n1_;have BK260 := n2_;have BK269 := n3_;have HB := n4_;clear n0_ n1_ n2_ n3_ n4_
    refine start_ (n := 5) (S := fun w' => w'.cell? ⟨gb269,0,none⟩ = some (.slice Ao25 t266.length co25) ∧ w'.cell? ⟨gb260,0,none⟩ = some (.slice A0_0 l0_0.length c0_0)) (ds := []) #[false,false,false,false,false] (by kernel_rfl) rfl rfl ⟨(blk_cell BK269.out 0).trans rfl,(blk_cell BK260.out 0).trans rfl⟩ (fun hHeld => ?_)
    generalize w28.drew = w29 at HO264 HO268 BK260 BK269 HB hHeld ⊢
    refine take_ (i := 0) (N := some 22) (v := ?_) (a' := ?_) #[true,false,false,false,false] rfl rfl (by kernel_rfl) (fun _ _ _ h => h) (Or.inl ⟨by rfl,?_⟩) hHeld ?_ ?_
    rotate_left
    ·rintro w' ⟨s0,s1⟩
     go_simp
     with_reducible rfl
    rotate_left
    ·simp only [Act.put,List.setIfInBounds_toArray,List.set_cons_zero,List.set_cons_succ,i64_w,i32_w]
     rfl
    refine take_ (i := 1) (N := some 23) (v := ?_) (a' := ?_) #[true,true,false,false,false] rfl rfl (by kernel_rfl) (fun _ _ _ h => h) (Or.inl ⟨by rfl,?_⟩) hHeld ?_ ?_
    rotate_left
    ·rintro w' ⟨s0,s1⟩
     go_simp
     with_reducible rfl
    rotate_left
    ·simp only [Act.put,List.setIfInBounds_toArray,List.set_cons_zero,List.set_cons_succ,i64_w,i32_w]
     rfl
    refine one_ (i := 2) (N := some 24) #[true,true,true,false,false] rfl rfl (by kernel_rfl) (by decide) (fun K hK => ?_)
    refine goes_ Try.func17 (by kernel_rfl) rfl #[.agg #[.slice A0_0 l0_0.length c0_0]] (by rfl) rfl rfl (by (try simp only [List.map_toArray,List.map_cons,List.map_nil]); first | done | rfl | (simp only [List.length_drop,List.length_take]; rfl)) ?_
    with_reducible refine (laws_toFs.calls k _ _ l0_0 t271 _ ?side1 ?side2 A12.out).mono ?_
    (case side1 => repeat (first | exact (Kd.C_below HR0_0.out HB.out) | (with_reducible refine Kd.C_alloc ?_ _) | (with_reducible refine Kd.C_drewN ?_ _) | (with_reducible refine Kd.C_drew ?_)));(case side2 => exact HC0_0.out)
    rintro e w30 ⟨v272,rfl,ho0,hb⟩
    refine ⟨_,rfl,?_⟩
    have n0_ := Aside0.mk (Kd.S_elder' (by (with_reducible repeat (first | apply Kd.S_alloc | apply Kd.S_drewN | apply Kd.S_drew)); exact HO264.out) (Kd.S_base ho0) hb);have n1_ := Aside0.mk (Kd.S_elder' (by (with_reducible repeat (first | apply Kd.S_alloc | apply Kd.S_drewN | apply Kd.S_drew)); exact HO268.out) (Kd.S_base ho0) hb);have n2_ := Aside0.mk (Kd.S_lower (Kd.S_new' (Kd.S_new' ho0 (Kd.S_lt (by (with_reducible repeat (first | apply Kd.S_alloc | apply Kd.S_drewN | apply Kd.S_drew)); exact HO264.out))) (Kd.S_lt (by (with_reducible repeat (first | apply Kd.S_alloc | apply Kd.S_drewN | apply Kd.S_drew)); exact HO268.out))) (below_size (by repeat (first | (with_reducible first | exact HB.out | apply yA | apply yN | apply yD | refine yS ?_ GE260.out | refine yS ?_ GE269.out) | exact HB.out))));have n3_ := Aside0.mk (blk_below (g := gb260) (o := .cells #[.slice A0_0 l0_0.length c0_0] 38 (0,0)) (by (with_reducible repeat (first | refine zN ?_ _ | refine zD ?_ | refine zA ?_ _)); exact BK260.out) hb);have n4_ := Aside0.mk (blk_below (g := gb269) (o := .cells #[.slice Ao25 t266.length co25] 27 (0,0)) (by (with_reducible repeat (first | refine zN ?_ _ | refine zD ?_ | refine zA ?_ _)); exact BK269.out) hb);have n5_ := Aside0.mk (below_step (by repeat (first | (with_reducible first | exact HB.out | apply yA | apply yN | apply yD | refine yS ?_ GE260.out | refine yS ?_ GE269.out) | exact HB.out)) hb)
    clear HO264;clear HO268;clear BK260;clear BK269;clear HB;have HO264 := n0_;have HO268 := n1_;have HO273 := n2_;have BK260 := n3_;have BK269 := n4_;have HB := n5_;clear n0_ n1_ n2_ n3_ n4_ n5_;(try clear hb);(try clear hb2);(try clear hk);(try clear hi);(try clear ho0);obtain ⟨Ao31,co31,eo31⟩ := Kd.S_slice HO273.out;(first | subst eo31 | (injection eo31 with f1_ f2_ f3_; have f4_ := f1_.symm; have f5_ := f3_.symm; clear f1_ f2_ f3_; subst f4_; subst f5_))
    refine hK.out _ _ ⟨(blk_cell BK269.out 0).trans rfl,(blk_cell BK260.out 0).trans rfl⟩ (fun hHeld => ?_)
    clear hK K
    refine norm_ (a' := ?_) ?_ ?_
    rotate_left
    ·show Act.put _ (some 24) _ = _
     simp only [Act.put,List.setIfInBounds_toArray,List.set_cons_zero,List.set_cons_succ,i64_w,i32_w]
     rfl
    refine one_ (i := 3) (N := some 25) #[true,true,true,true,false] rfl rfl (by kernel_rfl) (by decide) (fun K hK => ?_)
    refine goes_ Try.func18 (by kernel_rfl) rfl #[.agg #[.slice Ao25 t266.length co25],.agg #[.slice Ao31 t271.length co31]] (by rfl) rfl rfl (by (try simp only [List.map_toArray,List.map_cons,List.map_nil]); first | done | rfl | (simp only [List.length_drop,List.length_take]; rfl)) ?_
    with_reducible refine (laws_eqFs.calls k _ _ t266 _ _ t271 true _ ?side1 ?side2 ?side3 ?side4 A13.out).mono ?_
    (case side1 => repeat (first | exact (Kd.S_reads' HO268.out).2.2 | (with_reducible refine Kd.C_alloc ?_ _) | (with_reducible refine Kd.C_drewN ?_ _) | (with_reducible refine Kd.C_drew ?_)));(case side2 => exact (Kd.S_reads' HO268.out).2.1);(case side3 => repeat (first | exact (Kd.S_reads' HO273.out).2.2 | (with_reducible refine Kd.C_alloc ?_ _) | (with_reducible refine Kd.C_drewN ?_ _) | (with_reducible refine Kd.C_drew ?_)));(case side4 => exact (Kd.S_reads' HO273.out).2.1)
    rintro e w32 ⟨rfl,hb⟩
    refine ⟨_,rfl,?_⟩
    have n0_ := Aside0.mk (Kd.S_below (by (with_reducible repeat (first | apply Kd.S_alloc | apply Kd.S_drewN | apply Kd.S_drew)); exact HO264.out) hb);have n1_ := Aside0.mk (Kd.S_below (by (with_reducible repeat (first | apply Kd.S_alloc | apply Kd.S_drewN | apply Kd.S_drew)); exact HO268.out) hb);have n2_ := Aside0.mk (Kd.S_below (by (with_reducible repeat (first | apply Kd.S_alloc | apply Kd.S_drewN | apply Kd.S_drew)); exact HO273.out) hb);have n3_ := Aside0.mk (blk_below (g := gb260) (o := .cells #[.slice A0_0 l0_0.length c0_0] 38 (0,0)) (by (with_reducible repeat (first | refine zN ?_ _ | refine zD ?_ | refine zA ?_ _)); exact BK260.out) hb);have n4_ := Aside0.mk (blk_below (g := gb269) (o := .cells #[.slice Ao25 t266.length co25] 27 (0,0)) (by (with_reducible repeat (first | refine zN ?_ _ | refine zD ?_ | refine zA ?_ _)); exact BK269.out) hb);have n5_ := Aside0.mk (below_step (by repeat (first | (with_reducible first | exact HB.out | apply yA | apply yN | apply yD | refine yS ?_ GE260.out | refine yS ?_ GE269.out) | exact HB.out)) hb);clear HO264;clear HO268;clear HO273;clear BK260;clear BK269;clear HB;have HO264 := n0_;have HO268 := n1_;have HO273 := n2_;have BK260 := n3_;have BK269 := n4_;have HB := n5_;clear n0_ n1_ n2_ n3_ n4_ n5_;(try clear hb);(try clear hb2);(try clear hk);(try clear hi)
    refine hK.out _ _ ⟨(blk_cell BK269.out 0).trans rfl,(blk_cell BK260.out 0).trans rfl⟩ (fun hHeld => ?_)
    clear hK K
    refine norm_ (a' := ?_) ?_ ?_
    rotate_left
    ·show Act.put _ (some 25) _ = _
     simp only [Act.put,List.setIfInBounds_toArray,List.set_cons_zero,List.set_cons_succ,i64_w,i32_w]
     rfl
    refine pure_ (i := 4) (N := some 26) (v := ?_) (a' := ?_) #[true,true,true,true,true] rfl rfl (by kernel_rfl) (fun _ _ _ h => h) (Or.inl ⟨by rfl,?_⟩) ?_ ?_
    rotate_left
    ·intro w'
     go_simp
     with_reducible rfl
    rotate_left
    ·simp only [Act.put,List.setIfInBounds_toArray,List.set_cons_zero,List.set_cons_succ,i64_w,i32_w]
     rfl
    refine done_ (by kernel_rfl) ?_
    try go_wp2
    go_ret
    exact ⟨by first | rfl | (simp [errW_none,errW_some] <;> rfl) | (simp [*,errW_none,errW_some] <;> rfl),by repeat (first | (with_reducible first | exact HB.out | apply yA | apply yN | apply yD | refine yS ?_ GE260.out | refine yS ?_ GE269.out) | exact HB.out)⟩
   ·replace c14 := Bool.eq_false_iff.mpr c14;subst c14;(have H1 : (some false) = some r := by rw [if_neg (show ¬ (false = true) by decide)] at H; exact H);clear H;have H := H1;clear H1;obtain rfl := Option.some.inj H
    cases hr_

end Go.Proofs.Ytpljcphiaajjaaa.XFnExactFsOk
