-- Written by the kit's printer at the call of wip/tools/xprint.sh (this session's knobs and contracts). Not trusted: Lean checks it.
import Derived.Test.YtadbeajdccfceaaXFnPipeReadyx0
import Derived.Test.YtadbeajdccfceaaXFnPipeReadyx2
namespace Go.Proofs.Ytadbeajdccfceaa.XFnPipeReady
open Go.RowKit Go.Proofs.YtadbeajdccfceaaW.PrintWords Go.Proofs.YtadbeajdccfceaaW.PrintLast Go.Proofs.YtadbeajdccfceaaW.PrintMore
attribute [local go_sem] max2_int min2_int max_two min_two max_three min_three max_four min_four   -- for this text's walks alone
set_option linter.unusedVariables false
set_option linter.unusedSimpArgs false
abbrev zb0 : Array Bool := #[false,false,false,false,false,false,false,false]
abbrev zb1 : Array Bool := #[true,false,false,false,false,false,false,false]
abbrev zb2 : Array Bool := #[true,false,true,false,false,false,false,false]
abbrev zb3 : Array Bool := #[true,false,true,true,false,false,false,false]
abbrev zb4 : Array Bool := #[true,false,true,true,true,false,false,false]
abbrev zb5 : Array Bool := #[true,true,true,true,true,false,false,false]
abbrev zb6 : Array Bool := #[true,true,true,true,true,true,false,false]
abbrev zb7 : Array Bool := #[true,true,true,true,true,true,true,false]
abbrev zb8 : Array Bool := #[true,true,true,true,true,true,true,true]

/-! ### impl_PipePut: function 14 -/
def impl_PipePut.j0 : Nat → ByteArray → Bool → ByteArray → Int → Int → Option (ByteArray × Int × Int × Int × Int)
 | 0,_,_,_,_,_ => none
 | k + 1,x1,x16,x163000,x163001,x163002 => if x16 = true then (some ((⟨#[]⟩ : ByteArray),0,0,0,1)) else (if x163001 = 0 then (some (x163000,x163001,x163002,0,4)) else (if x1.toList = ([] : List UInt8) then (some (x163000,x163001,x163002,0,0)) else (if (wrap64 (8 - (x163000.size : Int))) = 0 then (some (x163000,x163001,x163002,0,2)) else (if (x1.size : Int) > (wrap64 (8 - (x163000.size : Int))) then (if (x1.size : Int) ≤ 4 then (some (x163000,x163001,x163002,0,2)) else (if 0 ≤ (mn (wrap64 (8 - (x163000.size : Int))) (x1.size : Int)) then (if (mn (wrap64 (8 - (x163000.size : Int))) (x1.size : Int)) ≤ (x1.size : Int) then (if x163000.size + (x1.extract 0 ((mn (wrap64 (8 - (x163000.size : Int))) (x1.size : Int)) : Int).toNat).size ≤ 9223372036854775807 then (some (x163000 ++ (x1.extract 0 ((mn (wrap64 (8 - (x163000.size : Int))) (x1.size : Int)) : Int).toNat),x163001,x163002,mn (wrap64 (8 - (x163000.size : Int))) (x1.size : Int),0)) else (none)) else (none)) else (none))) else (if 0 ≤ (mn (wrap64 (8 - (x163000.size : Int))) (x1.size : Int)) then (if (mn (wrap64 (8 - (x163000.size : Int))) (x1.size : Int)) ≤ (x1.size : Int) then (if x163000.size + (x1.extract 0 ((mn (wrap64 (8 - (x163000.size : Int))) (x1.size : Int)) : Int).toNat).size ≤ 9223372036854775807 then (some (x163000 ++ (x1.extract 0 ((mn (wrap64 (8 - (x163000.size : Int))) (x1.size : Int)) : Int).toNat),x163001,x163002,mn (wrap64 (8 - (x163000.size : Int))) (x1.size : Int),0)) else (none)) else (none)) else (none))))))
def impl_PipePut.f (k : Nat) (a0_0 : ByteArray) (a0_1 : Int) (a0_2 : Int) (a1 : ByteArray) : Option (ByteArray × Int × Int × Int × Int) := (impl_PipeOk.f a0_0 a0_1 a0_2).bind fun t164 => (if t164 = true then (impl_PipePut.j0 k a1 (a0_2 == 0) a0_0 a0_1 a0_2) else (impl_PipePut.j0 k a1 true a0_0 a0_1 a0_2))
theorem impl_PipePut.mono_l : ∀ k,(∀ y0 y1 y2 y3 y4,LeO (impl_PipePut.j0 k y0 y1 y2 y3 y4) (impl_PipePut.j0 (k + 1) y0 y1 y2 y3 y4))
 | 0 => fun _ _ _ _ _ r h => by simp [impl_PipePut.j0] at h
 | k + 1 => by
  have ih0 := impl_PipePut.mono_l k
  ·intro y0 y1 y2 y3 y4
   unfold impl_PipePut.j0
   repeat' first
   | (with_reducible exact ih0 _ _ _ _ _)
   | (with_reducible exact LeO.refl _)
   | (with_reducible exact LeO.none _)
   | (with_reducible refine LeO.ite ?_ ?_)
   | (with_reducible refine LeO.bind ?_ (fun _ => ?_))
   | exact ih0 _ _ _ _ _
   | exact LeO.none _
   | refine LeO.ite ?_ ?_
   | refine LeO.bind ?_ (fun _ => ?_)
theorem impl_PipePut.mono : ∀ a0 a1 a2 a3 k,LeO (impl_PipePut.f k a0 a1 a2 a3) (impl_PipePut.f (k + 1) a0 a1 a2 a3) := by
 intro a0 a1 a2 a3 k
 have ih0 := impl_PipePut.mono_l k
 unfold impl_PipePut.f
 repeat' first
   | (with_reducible exact ih0 _ _ _ _ _)
   | (with_reducible exact LeO.refl _)
   | (with_reducible exact LeO.none _)
   | (with_reducible refine LeO.ite ?_ ?_)
   | (with_reducible refine LeO.bind ?_ (fun _ => ?_))
   | exact ih0 _ _ _ _ _
   | exact LeO.none _
   | refine LeO.ite ?_ ?_
   | refine LeO.bind ?_ (fun _ => ?_)
def impl_PipePut.T11 : Bool × List (List Nat × List Nat) := (true,[([],[]),([0],[0]),([],[]),([],[]),([2,3],[2,3]),([1,4],[1,4]),([0,1,2,3,4,5],[]),([6,5,0,1,2,3,4,5],[5,6])])
def impl_PipePut.B11 : List Nat := [0,1,0,0,12,31,63,127]
theorem impl_PipePut.tab11 : rtab .any (opsOf Try.f14 11) = impl_PipePut.T11 := by kernel_rfl
theorem impl_PipePut.bits11 : waitsOk impl_PipePut.T11.2 impl_PipePut.B11 = true := by kernel_rfl
set_option maxHeartbeats 8000000 in
set_option maxRecDepth 100000 in
theorem impl_PipePut.calls (k : Nat) (a0_0 : ByteArray) (a0_1 : Int) (a0_2 : Int) (a1 : ByteArray) (r1 : ByteArray) (r2 : Int) (r3 : Int) (r4 : Int) (r5 : Int) (w : World) (h : impl_PipePut.f k a0_0 a0_1 a0_2 a1 = some (r1,r2,r3,r4,r5)) :
  Calls Try.prog 14 #[.agg #[.string a0_0,.int .i64 a0_1,.int .i64 a0_2],.string a1] w fun e w' => e = .returned (.tuple #[.agg #[.string r1,.int .i64 r2,.int .i64 r3],.int .i64 r4,.int .i64 r5]) ∧ Below w.heap.size w w' := by
 have hu24 := Try.underlying24
 have HB := Aside0.mk (Below.refl w.heap.size w)
 have H : ((impl_PipeOk.f a0_0 a0_1 a0_2).bind fun t164 => (if t164 = true then (impl_PipePut.j0 k a1 (a0_2 == 0) a0_0 a0_1 a0_2) else (impl_PipePut.j0 k a1 true a0_0 a0_1 a0_2))) = some (r1,r2,r3,r4,r5) := h
 clear h
 have HC3 := Aside0.mk H
 clear H
 go_enter Try.func14,Try.ntmps14
 go_upto_region 1 with (first | ((with_reducible refine gate_dst (N := 2) rfl ?_); (try (refine gate_guard (by rfl) ?_; dsimp only)); refine box_event ?hg (N := 2) ?hd (cs := #[.string a0_0,.int .i64 a0_1,.int .i64 a0_2]) (t := 24) ?hr ?_; (case hd => rfl); (case hg => rfl); (case hr => first | (go_simp; done) | (go_simp; rfl)); intro gb162 hg w4 hbox hb; have n0_ := Aside0.mk (below_step (by repeat (first | (with_reducible first | exact HB.out | apply below_alloc | apply pw_below_drewN | apply below_drew1) | exact HB.out)) hb); have n1_ := Aside0.mk (hbox); have n2_ := Aside0.mk ((by rw [hg]; exact (below_size (by repeat (first | (with_reducible first | exact HB.out | apply below_alloc | apply pw_below_drewN | apply below_drew1) | exact HB.out))) : w.heap.size ≤ gb162)); have n3_ := Aside0.mk ((by rw [hg]; exact (below_size (by repeat (first | (with_reducible first | exact HB.out | apply below_alloc | apply pw_below_drewN | apply below_drew1) | exact HB.out))) : w.heap.size ≤ gb162)); clear HB; have HB := n0_; have BK162 := n1_; have GW162 := n2_; have GE162 := n3_; clear n0_ n1_ n2_ n3_; clear hb hbox hg) | ((with_reducible refine gate_dst (N := 4) rfl ?_); (try (refine gate_guard (by rfl) ?_; dsimp only)); refine box_event ?hg (N := 4) ?hd (cs := #[.string (⟨#[]⟩ : ByteArray),.int .i64 0,.int .i64 0]) (t := 24) ?hr ?_; (case hd => rfl); (case hg => rfl); (case hr => first | (go_simp; done) | (go_simp; rfl)); intro gb163 hg w5 hbox hb; have n0_ := Aside0.mk (blk_below (g := gb162) (o := .cells #[.string a0_0,.int .i64 a0_1,.int .i64 a0_2] 24 (0,0)) (by (with_reducible repeat (first | refine blk_drewN ?_ _ | refine blk_drew ?_ | refine blk_alloc ?_ _)); exact BK162.out) hb); have n1_ := Aside0.mk (below_step (by repeat (first | (with_reducible first | exact HB.out | apply below_alloc | apply pw_below_drewN | apply below_drew1 | refine below_set ?_ GE162.out) | exact HB.out)) hb); have n2_ := Aside0.mk (hbox); have n3_ := Aside0.mk ((by rw [hg]; exact (below_size (by repeat (first | (with_reducible first | exact HB.out | apply below_alloc | apply pw_below_drewN | apply below_drew1 | refine below_set ?_ GE162.out) | exact HB.out))) : w.heap.size ≤ gb163)); have n4_ := Aside0.mk ((by rw [hg]; exact (below_size (by repeat (first | (with_reducible first | exact HB.out | apply below_alloc | apply pw_below_drewN | apply below_drew1 | refine below_set ?_ GE162.out) | exact HB.out))) : w.heap.size ≤ gb163)); have n5_ := Aside0.mk ((by rw [hg]; exact Nat.ne_of_lt (blk_lt (g := gb162) (o := .cells #[.string a0_0,.int .i64 a0_1,.int .i64 a0_2] 24 (0,0)) (by (with_reducible repeat (first | refine blk_drewN ?_ _ | refine blk_drew ?_ | refine blk_alloc ?_ _)); exact BK162.out)) : gb162 ≠ gb163)); have n6_ := Aside0.mk ((by rw [hg]; exact Nat.ne_of_gt (blk_lt (g := gb162) (o := .cells #[.string a0_0,.int .i64 a0_1,.int .i64 a0_2] 24 (0,0)) (by (with_reducible repeat (first | refine blk_drewN ?_ _ | refine blk_drew ?_ | refine blk_alloc ?_ _)); exact BK162.out)) : gb163 ≠ gb162)); clear BK162; clear HB; have BK162 := n0_; have HB := n1_; have BK163 := n2_; have GW163 := n3_; have GE163 := n4_; have NB162_163 := n5_; have NB163_162 := n6_; clear n0_ n1_ n2_ n3_ n4_ n5_ n6_; clear hb hbox hg))
 (try simp only [Act.put,List.setIfInBounds_toArray,List.set_cons_zero,List.set_cons_succ])
 go_cut [16] (fun v16 wc => ∃ (kq : Nat) (x16_2 : Bool),v16 = .bool x16_2 ∧ Aside0 (impl_PipePut.j0 kq a1 x16_2 a0_0 a0_1 a0_2 = some (r1,r2,r3,r4,r5)) ∧ Aside0 (kq ≤ k) ∧ Aside0 (wc.heap[gb162]? = some (.cells #[.string a0_0,.int .i64 a0_1,.int .i64 a0_2] 24 (0,0))) ∧ Aside0 (wc.heap[gb163]? = some (.cells #[.string (⟨#[]⟩ : ByteArray),.int .i64 0,.int .i64 0] 24 (0,0))) ∧ Aside0 (Below w.heap.size w wc))
 case first =>
  have H := HC3.out
  clear HC3
  replace H := Option.bind_eq_some_iff.mp H
  obtain ⟨t164,A60,H⟩ := H
  replace H : (if t164 = true then (impl_PipePut.j0 k a1 (a0_2 == 0) a0_0 a0_1 a0_2) else (impl_PipePut.j0 k a1 true a0_0 a0_1 a0_2)) = some (r1,r2,r3,r4,r5) := H
  have A6 := Aside0.mk A60
  clear A60
  by_cases c7 : t164 = true
  ·subst c7
   have H1 : (impl_PipePut.j0 k a1 (a0_2 == 0) a0_0 a0_1 a0_2) = some (r1,r2,r3,r4,r5) := by rw [if_pos rfl] at H; exact H
   clear H
   have H := H1
   clear H1
   have H' := Aside0.mk H
   clear H
   have hnb8 := NB162_163.out
   have hnc8 := NB163_162.out
   have hcz9_0 : w5.cell? ⟨gb162,0,none⟩ = some (.string a0_0) := (blk_cell BK162.out 0).trans rfl
   have hcz9_1 : w5.cell? ⟨gb162,1,none⟩ = some (.int .i64 a0_1) := (blk_cell BK162.out 1).trans rfl
   have hcz9_2 : w5.cell? ⟨gb162,2,none⟩ = some (.int .i64 a0_2) := (blk_cell BK162.out 2).trans rfl
   have hfz9_0 := blk_frozen BK162.out 0
   have hfz9_1 := blk_frozen BK162.out 1
   have hfz9_2 := blk_frozen BK162.out 2
   go_wp2_with (first | ((with_reducible refine gate_callee (f := 12) rfl ?_); refine goesL_ (some 10) rfl rfl Try.func12 (by kernel_rfl) rfl #[.agg #[.string a0_0,.int .i64 a0_1,.int .i64 a0_2]] rfl (by (try simp only [List.map_toArray,List.map_cons,List.map_nil]); first | done | rfl | (simp only [List.length_drop,List.length_take]; rfl)) ?_; (with_reducible refine (impl_PipeOk.calls a0_0 a0_1 a0_2 true _ A6.out).mono ?_); rintro e w10 ⟨rfl,hb⟩; refine ⟨_,rfl,?_⟩; have n0_ := Aside0.mk (blk_below (g := gb162) (o := .cells #[.string a0_0,.int .i64 a0_1,.int .i64 a0_2] 24 (0,0)) (by (with_reducible repeat (first | refine blk_drewN ?_ _ | refine blk_drew ?_ | refine blk_alloc ?_ _)); exact BK162.out) hb); have n1_ := Aside0.mk (blk_below (g := gb163) (o := .cells #[.string (⟨#[]⟩ : ByteArray),.int .i64 0,.int .i64 0] 24 (0,0)) (by (with_reducible repeat (first | refine blk_drewN ?_ _ | refine blk_drew ?_ | refine blk_alloc ?_ _)); exact BK163.out) hb); have n2_ := Aside0.mk (below_step (by repeat (first | (with_reducible first | exact HB.out | apply below_alloc | apply pw_below_drewN | apply below_drew1 | refine below_set ?_ GE162.out | refine below_set ?_ GE163.out) | exact HB.out)) hb); clear BK162; clear BK163; clear HB; have BK162 := n0_; have BK163 := n1_; have HB := n2_; clear n0_ n1_ n2_; (try clear hb); (try clear hb2); (try clear hk); (try clear hi); have hcz11_0 : w10.cell? ⟨gb162,0,none⟩ = some (.string a0_0) := (blk_cell BK162.out 0).trans rfl; have hcz11_1 : w10.cell? ⟨gb162,1,none⟩ = some (.int .i64 a0_1) := (blk_cell BK162.out 1).trans rfl; have hcz11_2 : w10.cell? ⟨gb162,2,none⟩ = some (.int .i64 a0_2) := (blk_cell BK162.out 2).trans rfl; have hfz11_0 := blk_frozen BK162.out 0; have hfz11_1 := blk_frozen BK162.out 1; have hfz11_2 := blk_frozen BK162.out 2))
   go_meet
   case rel => exact ⟨_,((a0_2 == 0)),(by first | rfl | (simp; done) | (simp [*]; done)),H',⟨by first | omega | exact Nat.le_refl _⟩,⟨by (with_reducible repeat (first | refine blk_drewN ?_ _ | refine blk_drew ?_ | refine blk_alloc ?_ _)); first | exact BK162.out | (simp only [*]; exact BK162.out)⟩,⟨by (with_reducible repeat (first | refine blk_drewN ?_ _ | refine blk_drew ?_ | refine blk_alloc ?_ _)); first | exact BK163.out | (simp only [*]; exact BK163.out)⟩,⟨by repeat (first | (with_reducible first | exact HB.out | apply below_alloc | apply pw_below_drewN | apply below_drew1 | refine below_set ?_ GE162.out | refine below_set ?_ GE163.out) | exact HB.out)⟩⟩
  ·replace c7 := Bool.eq_false_iff.mpr c7
   subst c7
   have H1 : (impl_PipePut.j0 k a1 true a0_0 a0_1 a0_2) = some (r1,r2,r3,r4,r5) := by rw [if_neg (show ¬ (false = true) by decide)] at H; exact H
   clear H
   have H := H1
   clear H1
   have H' := Aside0.mk H
   clear H
   have hnb12 := NB162_163.out
   have hnc12 := NB163_162.out
   have hcz13_0 : w5.cell? ⟨gb162,0,none⟩ = some (.string a0_0) := (blk_cell BK162.out 0).trans rfl
   have hcz13_1 : w5.cell? ⟨gb162,1,none⟩ = some (.int .i64 a0_1) := (blk_cell BK162.out 1).trans rfl
   have hcz13_2 : w5.cell? ⟨gb162,2,none⟩ = some (.int .i64 a0_2) := (blk_cell BK162.out 2).trans rfl
   have hfz13_0 := blk_frozen BK162.out 0
   have hfz13_1 := blk_frozen BK162.out 1
   have hfz13_2 := blk_frozen BK162.out 2
   go_wp2_with (first | ((with_reducible refine gate_callee (f := 12) rfl ?_); refine goesL_ (some 10) rfl rfl Try.func12 (by kernel_rfl) rfl #[.agg #[.string a0_0,.int .i64 a0_1,.int .i64 a0_2]] rfl (by (try simp only [List.map_toArray,List.map_cons,List.map_nil]); first | done | rfl | (simp only [List.length_drop,List.length_take]; rfl)) ?_; (with_reducible refine (impl_PipeOk.calls a0_0 a0_1 a0_2 false _ A6.out).mono ?_); rintro e w14 ⟨rfl,hb⟩; refine ⟨_,rfl,?_⟩; have n0_ := Aside0.mk (blk_below (g := gb162) (o := .cells #[.string a0_0,.int .i64 a0_1,.int .i64 a0_2] 24 (0,0)) (by (with_reducible repeat (first | refine blk_drewN ?_ _ | refine blk_drew ?_ | refine blk_alloc ?_ _)); exact BK162.out) hb); have n1_ := Aside0.mk (blk_below (g := gb163) (o := .cells #[.string (⟨#[]⟩ : ByteArray),.int .i64 0,.int .i64 0] 24 (0,0)) (by (with_reducible repeat (first | refine blk_drewN ?_ _ | refine blk_drew ?_ | refine blk_alloc ?_ _)); exact BK163.out) hb); have n2_ := Aside0.mk (below_step (by repeat (first | (with_reducible first | exact HB.out | apply below_alloc | apply pw_below_drewN | apply below_drew1 | refine below_set ?_ GE162.out | refine below_set ?_ GE163.out) | exact HB.out)) hb); clear BK162; clear BK163; clear HB; have BK162 := n0_; have BK163 := n1_; have HB := n2_; clear n0_ n1_ n2_; (try clear hb); (try clear hb2); (try clear hk); (try clear hi)))
   go_meet
   case rel => exact ⟨_,(true),(by first | rfl | (simp; done) | (simp [*]; done)),H',⟨by first | omega | exact Nat.le_refl _⟩,⟨by (with_reducible repeat (first | refine blk_drewN ?_ _ | refine blk_drew ?_ | refine blk_alloc ?_ _)); first | exact BK162.out | (simp only [*]; exact BK162.out)⟩,⟨by (with_reducible repeat (first | refine blk_drewN ?_ _ | refine blk_drew ?_ | refine blk_alloc ?_ _)); first | exact BK163.out | (simp only [*]; exact BK163.out)⟩,⟨by repeat (first | (with_reducible first | exact HB.out | apply below_alloc | apply pw_below_drewN | apply below_drew1 | refine below_set ?_ GE162.out | refine below_set ?_ GE163.out) | exact HB.out)⟩⟩
 case rest =>
  clear HC3
  try clear c1
  try clear p2
  try clear c7
  try clear c8
  try clear c12
  try clear c14
  try clear hcz11_0
  try clear hcz11_1
  try clear hcz11_2
  try clear hcz13_0
  try clear hcz13_1
  try clear hcz13_2
  try clear hcz9_0
  try clear hcz9_1
  try clear hcz9_2
  try clear hfz11_0
  try clear hfz11_1
  try clear hfz11_2
  try clear hfz13_0
  try clear hfz13_1
  try clear hfz13_2
  try clear hfz9_0
  try clear hfz9_1
  try clear hfz9_2
  obtain ⟨kq,x16_2,rfl,HA,HJ2,BK162,BK163,HB⟩ := hcut
  cases kq with
  | zero => exact absurd HA.out (by simp [impl_PipePut.j0])
  | succ kj2 =>
   have H := HA.out
   clear HA
   simp only [impl_PipePut.j0] at H
   by_cases c15 : x16_2 = true
   ·subst c15
    have H1 : (some ((⟨#[]⟩ : ByteArray),0,0,0,1)) = some (r1,r2,r3,r4,r5) := by rw [if_pos rfl] at H; exact H
    clear H
    have H := H1
    clear H1
    simp only [Option.some.injEq,Prod.mk.injEq] at H
    obtain ⟨rfl,rfl,rfl,rfl,rfl⟩ := H
    have hnb16 := NB163_162.out
    have hnc16 := NB162_163.out
    have hcz17_0 : wc.cell? ⟨gb163,0,none⟩ = some (.string (⟨#[]⟩ : ByteArray)) := (blk_cell BK163.out 0).trans rfl
    have hcz17_1 : wc.cell? ⟨gb163,1,none⟩ = some (.int .i64 0) := (blk_cell BK163.out 1).trans rfl
    have hcz17_2 : wc.cell? ⟨gb163,2,none⟩ = some (.int .i64 0) := (blk_cell BK163.out 2).trans rfl
    have hfz17_0 := blk_frozen BK163.out 0
    have hfz17_1 := blk_frozen BK163.out 1
    have hfz17_2 := blk_frozen BK163.out 2
    go_wp2
    refine bodyPost_ret (results_ctt rfl _ _ gb163 24 #[.string (⟨#[]⟩ : ByteArray),.int .i64 0,.int .i64 0] (0,0) _ rfl (by (with_reducible repeat (first | refine blk_drewN ?_ _ | refine blk_drew ?_ | refine blk_alloc ?_ _)); refine blk_put (cs := #[.string (⟨#[]⟩ : ByteArray),.int .i64 0,.int .i64 0]) ?_ 2 _ rfl; (with_reducible repeat (first | refine blk_drewN ?_ _ | refine blk_drew ?_ | refine blk_alloc ?_ _)); refine blk_put (cs := #[.string (⟨#[]⟩ : ByteArray),.int .i64 0,.int .i64 0]) ?_ 1 _ rfl; (with_reducible repeat (first | refine blk_drewN ?_ _ | refine blk_drew ?_ | refine blk_alloc ?_ _)); refine blk_put (cs := #[.string (⟨#[]⟩ : ByteArray),.int .i64 0,.int .i64 0]) ?_ 0 _ rfl; (with_reducible repeat (first | refine blk_drewN ?_ _ | refine blk_drew ?_ | refine blk_alloc ?_ _)); exact BK163.out) Try.underlying24 rfl (by kernel_rfl)) rfl ?_
    exact ⟨by first | rfl | (simp [errW_none,errW_some] <;> rfl) | (simp [*,errW_none,errW_some] <;> rfl),by repeat (first | (with_reducible first | exact HB.out | apply below_alloc | apply pw_below_drewN | apply below_drew1 | refine below_set ?_ GE162.out | refine below_set ?_ GE163.out) | exact HB.out)⟩
   ·replace c15 := Bool.eq_false_iff.mpr c15
    subst c15
    have H1 : (if a0_1 = 0 then (some (a0_0,a0_1,a0_2,0,4)) else (if a1.toList = ([] : List UInt8) then (some (a0_0,a0_1,a0_2,0,0)) else (if (wrap64 (8 - (a0_0.size : Int))) = 0 then (some (a0_0,a0_1,a0_2,0,2)) else (if (a1.size : Int) > (wrap64 (8 - (a0_0.size : Int))) then (if (a1.size : Int) ≤ 4 then (some (a0_0,a0_1,a0_2,0,2)) else (if 0 ≤ (mn (wrap64 (8 - (a0_0.size : Int))) (a1.size : Int)) then (if (mn (wrap64 (8 - (a0_0.size : Int))) (a1.size : Int)) ≤ (a1.size : Int) then (if a0_0.size + (a1.extract 0 ((mn (wrap64 (8 - (a0_0.size : Int))) (a1.size : Int)) : Int).toNat).size ≤ 9223372036854775807 then (some (a0_0 ++ (a1.extract 0 ((mn (wrap64 (8 - (a0_0.size : Int))) (a1.size : Int)) : Int).toNat),a0_1,a0_2,mn (wrap64 (8 - (a0_0.size : Int))) (a1.size : Int),0)) else (none)) else (none)) else (none))) else (if 0 ≤ (mn (wrap64 (8 - (a0_0.size : Int))) (a1.size : Int)) then (if (mn (wrap64 (8 - (a0_0.size : Int))) (a1.size : Int)) ≤ (a1.size : Int) then (if a0_0.size + (a1.extract 0 ((mn (wrap64 (8 - (a0_0.size : Int))) (a1.size : Int)) : Int).toNat).size ≤ 9223372036854775807 then (some (a0_0 ++ (a1.extract 0 ((mn (wrap64 (8 - (a0_0.size : Int))) (a1.size : Int)) : Int).toNat),a0_1,a0_2,mn (wrap64 (8 - (a0_0.size : Int))) (a1.size : Int),0)) else (none)) else (none)) else (none)))))) = some (r1,r2,r3,r4,r5) := by rw [if_neg (show ¬ (false = true) by decide)] at H; exact H
    clear H
    have H := H1
    clear H1
    by_cases c18 : a0_1 = 0
    ·rw [if_pos c18] at H
     have c18b0 : (a0_1 == 0) = true := beq_iff_eq.mpr c18
     have c18b1 : (a0_1 != 0) = false := bne_eq_false_iff_eq.mpr c18
     clear c18
     simp only [Option.some.injEq,Prod.mk.injEq] at H
     obtain ⟨rfl,rfl,rfl,rfl,rfl⟩ := H
     have hnb19 := NB162_163.out
     have hnc19 := NB163_162.out
     have hcz20_0 : wc.cell? ⟨gb162,0,none⟩ = some (.string a0_0) := (blk_cell BK162.out 0).trans rfl
     have hcz20_1 : wc.cell? ⟨gb162,1,none⟩ = some (.int .i64 a0_1) := (blk_cell BK162.out 1).trans rfl
     have hcz20_2 : wc.cell? ⟨gb162,2,none⟩ = some (.int .i64 a0_2) := (blk_cell BK162.out 2).trans rfl
     have hfz20_0 := blk_frozen BK162.out 0
     have hfz20_1 := blk_frozen BK162.out 1
     have hfz20_2 := blk_frozen BK162.out 2
     have hcz21_0 : wc.cell? ⟨gb163,0,none⟩ = some (.string (⟨#[]⟩ : ByteArray)) := (blk_cell BK163.out 0).trans rfl
     have hcz21_1 : wc.cell? ⟨gb163,1,none⟩ = some (.int .i64 0) := (blk_cell BK163.out 1).trans rfl
     have hcz21_2 : wc.cell? ⟨gb163,2,none⟩ = some (.int .i64 0) := (blk_cell BK163.out 2).trans rfl
     have hfz21_0 := blk_frozen BK163.out 0
     have hfz21_1 := blk_frozen BK163.out 1
     have hfz21_2 := blk_frozen BK163.out 2
     go_wp2
     refine bodyPost_ret (results_ctt rfl _ _ gb163 24 #[.string a0_0,.int .i64 a0_1,.int .i64 a0_2] (0,0) _ rfl (by (with_reducible repeat (first | refine blk_drewN ?_ _ | refine blk_drew ?_ | refine blk_alloc ?_ _)); refine blk_put (cs := #[.string a0_0,.int .i64 a0_1,.int .i64 0]) ?_ 2 _ rfl; (with_reducible repeat (first | refine blk_drewN ?_ _ | refine blk_drew ?_ | refine blk_alloc ?_ _)); refine blk_put (cs := #[.string a0_0,.int .i64 0,.int .i64 0]) ?_ 1 _ rfl; (with_reducible repeat (first | refine blk_drewN ?_ _ | refine blk_drew ?_ | refine blk_alloc ?_ _)); refine blk_put (cs := #[.string (⟨#[]⟩ : ByteArray),.int .i64 0,.int .i64 0]) ?_ 0 _ rfl; (with_reducible repeat (first | refine blk_drewN ?_ _ | refine blk_drew ?_ | refine blk_alloc ?_ _)); exact BK163.out) Try.underlying24 rfl (by kernel_rfl)) rfl ?_
     exact ⟨by first | rfl | (simp [errW_none,errW_some] <;> rfl) | (simp [*,errW_none,errW_some] <;> rfl),by repeat (first | (with_reducible first | exact HB.out | apply below_alloc | apply pw_below_drewN | apply below_drew1 | refine below_set ?_ GE162.out | refine below_set ?_ GE163.out) | exact HB.out)⟩
    ·rw [if_neg c18] at H
     have c18b0 : (a0_1 == 0) = false := beq_eq_false_iff_ne.mpr c18
     have c18b1 : (a0_1 != 0) = true := bne_iff_ne.mpr c18
     by_cases c22 : a1.toList = ([] : List UInt8)
     ·rw [if_pos c22] at H
      have c22b0 : (a1.toList == ([] : List UInt8)) = true := beq_iff_eq.mpr c22
      have c22b1 : (a1.toList != ([] : List UInt8)) = false := bne_eq_false_iff_eq.mpr c22
      clear c22
      simp only [Option.some.injEq,Prod.mk.injEq] at H
      obtain ⟨rfl,rfl,rfl,rfl,rfl⟩ := H
      have hnb23 := NB162_163.out
      have hnc23 := NB163_162.out
      have hcz24_0 : wc.cell? ⟨gb162,0,none⟩ = some (.string a0_0) := (blk_cell BK162.out 0).trans rfl
      have hcz24_1 : wc.cell? ⟨gb162,1,none⟩ = some (.int .i64 a0_1) := (blk_cell BK162.out 1).trans rfl
      have hcz24_2 : wc.cell? ⟨gb162,2,none⟩ = some (.int .i64 a0_2) := (blk_cell BK162.out 2).trans rfl
      have hfz24_0 := blk_frozen BK162.out 0
      have hfz24_1 := blk_frozen BK162.out 1
      have hfz24_2 := blk_frozen BK162.out 2
      have hcz25_0 : wc.cell? ⟨gb163,0,none⟩ = some (.string (⟨#[]⟩ : ByteArray)) := (blk_cell BK163.out 0).trans rfl
      have hcz25_1 : wc.cell? ⟨gb163,1,none⟩ = some (.int .i64 0) := (blk_cell BK163.out 1).trans rfl
      have hcz25_2 : wc.cell? ⟨gb163,2,none⟩ = some (.int .i64 0) := (blk_cell BK163.out 2).trans rfl
      have hfz25_0 := blk_frozen BK163.out 0
      have hfz25_1 := blk_frozen BK163.out 1
      have hfz25_2 := blk_frozen BK163.out 2
      go_wp2
      refine bodyPost_ret (results_ctt rfl _ _ gb163 24 #[.string a0_0,.int .i64 a0_1,.int .i64 a0_2] (0,0) _ rfl (by (with_reducible repeat (first | refine blk_drewN ?_ _ | refine blk_drew ?_ | refine blk_alloc ?_ _)); refine blk_put (cs := #[.string a0_0,.int .i64 a0_1,.int .i64 0]) ?_ 2 _ rfl; (with_reducible repeat (first | refine blk_drewN ?_ _ | refine blk_drew ?_ | refine blk_alloc ?_ _)); refine blk_put (cs := #[.string a0_0,.int .i64 0,.int .i64 0]) ?_ 1 _ rfl; (with_reducible repeat (first | refine blk_drewN ?_ _ | refine blk_drew ?_ | refine blk_alloc ?_ _)); refine blk_put (cs := #[.string (⟨#[]⟩ : ByteArray),.int .i64 0,.int .i64 0]) ?_ 0 _ rfl; (with_reducible repeat (first | refine blk_drewN ?_ _ | refine blk_drew ?_ | refine blk_alloc ?_ _)); exact BK163.out) Try.underlying24 rfl (by kernel_rfl)) rfl ?_
      exact ⟨by first | rfl | (simp [errW_none,errW_some] <;> rfl) | (simp [*,errW_none,errW_some] <;> rfl),by repeat (first | (with_reducible first | exact HB.out | apply below_alloc | apply pw_below_drewN | apply below_drew1 | refine below_set ?_ GE162.out | refine below_set ?_ GE163.out) | exact HB.out)⟩
     ·rw [if_neg c22] at H
      have c22b0 : (a1.toList == ([] : List UInt8)) = false := beq_eq_false_iff_ne.mpr c22
      have c22b1 : (a1.toList != ([] : List UInt8)) = true := bne_iff_ne.mpr c22
      by_cases c26 : (wrap64 (8 - (a0_0.size : Int))) = 0
      ·rw [if_pos c26] at H
       have c26b0 : ((wrap64 (8 - (a0_0.size : Int))) == 0) = true := beq_iff_eq.mpr c26
       have c26b1 : ((wrap64 (8 - (a0_0.size : Int))) != 0) = false := bne_eq_false_iff_eq.mpr c26
       clear c26
       simp only [Option.some.injEq,Prod.mk.injEq] at H
       obtain ⟨rfl,rfl,rfl,rfl,rfl⟩ := H
       have hnb27 := NB162_163.out
       have hnc27 := NB163_162.out
       have hcz28_0 : wc.cell? ⟨gb162,0,none⟩ = some (.string a0_0) := (blk_cell BK162.out 0).trans rfl
       have hcz28_1 : wc.cell? ⟨gb162,1,none⟩ = some (.int .i64 a0_1) := (blk_cell BK162.out 1).trans rfl
       have hcz28_2 : wc.cell? ⟨gb162,2,none⟩ = some (.int .i64 a0_2) := (blk_cell BK162.out 2).trans rfl
       have hfz28_0 := blk_frozen BK162.out 0
       have hfz28_1 := blk_frozen BK162.out 1
       have hfz28_2 := blk_frozen BK162.out 2
       have hcz29_0 : wc.cell? ⟨gb163,0,none⟩ = some (.string (⟨#[]⟩ : ByteArray)) := (blk_cell BK163.out 0).trans rfl
       have hcz29_1 : wc.cell? ⟨gb163,1,none⟩ = some (.int .i64 0) := (blk_cell BK163.out 1).trans rfl
       have hcz29_2 : wc.cell? ⟨gb163,2,none⟩ = some (.int .i64 0) := (blk_cell BK163.out 2).trans rfl
       have hfz29_0 := blk_frozen BK163.out 0
       have hfz29_1 := blk_frozen BK163.out 1
       have hfz29_2 := blk_frozen BK163.out 2
       go_wp2
       refine bodyPost_ret (results_ctt rfl _ _ gb163 24 #[.string a0_0,.int .i64 a0_1,.int .i64 a0_2] (0,0) _ rfl (by (with_reducible repeat (first | refine blk_drewN ?_ _ | refine blk_drew ?_ | refine blk_alloc ?_ _)); refine blk_put (cs := #[.string a0_0,.int .i64 a0_1,.int .i64 0]) ?_ 2 _ rfl; (with_reducible repeat (first | refine blk_drewN ?_ _ | refine blk_drew ?_ | refine blk_alloc ?_ _)); refine blk_put (cs := #[.string a0_0,.int .i64 0,.int .i64 0]) ?_ 1 _ rfl; (with_reducible repeat (first | refine blk_drewN ?_ _ | refine blk_drew ?_ | refine blk_alloc ?_ _)); refine blk_put (cs := #[.string (⟨#[]⟩ : ByteArray),.int .i64 0,.int .i64 0]) ?_ 0 _ rfl; (with_reducible repeat (first | refine blk_drewN ?_ _ | refine blk_drew ?_ | refine blk_alloc ?_ _)); exact BK163.out) Try.underlying24 rfl (by kernel_rfl)) rfl ?_
       exact ⟨by first | rfl | (simp [errW_none,errW_some] <;> rfl) | (simp [*,errW_none,errW_some] <;> rfl),by repeat (first | (with_reducible first | exact HB.out | apply below_alloc | apply pw_below_drewN | apply below_drew1 | refine below_set ?_ GE162.out | refine below_set ?_ GE163.out) | exact HB.out)⟩
      ·rw [if_neg c26] at H
       have c26b0 : ((wrap64 (8 - (a0_0.size : Int))) == 0) = false := beq_eq_false_iff_ne.mpr c26
       have c26b1 : ((wrap64 (8 - (a0_0.size : Int))) != 0) = true := bne_iff_ne.mpr c26
       by_cases c30 : (a1.size : Int) > (wrap64 (8 - (a0_0.size : Int)))
       ·rw [if_pos c30] at H
        have c30b0 : decide ((wrap64 (8 - (a0_0.size : Int))) < (a1.size : Int)) = true := decide_eq_true c30
        clear c30
        by_cases c31 : (a1.size : Int) ≤ 4
        ·rw [if_pos c31] at H
         have c31b0 : decide ((a1.size : Int) ≤ 4) = true := decide_eq_true c31
         have c31b1 : decide (a1.size ≤ 4) = true := decide_eq_true (by omega)
         clear c31
         simp only [Option.some.injEq,Prod.mk.injEq] at H
         obtain ⟨rfl,rfl,rfl,rfl,rfl⟩ := H
         have hnb32 := NB162_163.out
         have hnc32 := NB163_162.out
         have hcz33_0 : wc.cell? ⟨gb162,0,none⟩ = some (.string a0_0) := (blk_cell BK162.out 0).trans rfl
         have hcz33_1 : wc.cell? ⟨gb162,1,none⟩ = some (.int .i64 a0_1) := (blk_cell BK162.out 1).trans rfl
         have hcz33_2 : wc.cell? ⟨gb162,2,none⟩ = some (.int .i64 a0_2) := (blk_cell BK162.out 2).trans rfl
         have hfz33_0 := blk_frozen BK162.out 0
         have hfz33_1 := blk_frozen BK162.out 1
         have hfz33_2 := blk_frozen BK162.out 2
         have hcz34_0 : wc.cell? ⟨gb163,0,none⟩ = some (.string (⟨#[]⟩ : ByteArray)) := (blk_cell BK163.out 0).trans rfl
         have hcz34_1 : wc.cell? ⟨gb163,1,none⟩ = some (.int .i64 0) := (blk_cell BK163.out 1).trans rfl
         have hcz34_2 : wc.cell? ⟨gb163,2,none⟩ = some (.int .i64 0) := (blk_cell BK163.out 2).trans rfl
         have hfz34_0 := blk_frozen BK163.out 0
         have hfz34_1 := blk_frozen BK163.out 1
         have hfz34_2 := blk_frozen BK163.out 2
         go_wp2
         refine bodyPost_ret (results_ctt rfl _ _ gb163 24 #[.string a0_0,.int .i64 a0_1,.int .i64 a0_2] (0,0) _ rfl (by (with_reducible repeat (first | refine blk_drewN ?_ _ | refine blk_drew ?_ | refine blk_alloc ?_ _)); refine blk_put (cs := #[.string a0_0,.int .i64 a0_1,.int .i64 0]) ?_ 2 _ rfl; (with_reducible repeat (first | refine blk_drewN ?_ _ | refine blk_drew ?_ | refine blk_alloc ?_ _)); refine blk_put (cs := #[.string a0_0,.int .i64 0,.int .i64 0]) ?_ 1 _ rfl; (with_reducible repeat (first | refine blk_drewN ?_ _ | refine blk_drew ?_ | refine blk_alloc ?_ _)); refine blk_put (cs := #[.string (⟨#[]⟩ : ByteArray),.int .i64 0,.int .i64 0]) ?_ 0 _ rfl; (with_reducible repeat (first | refine blk_drewN ?_ _ | refine blk_drew ?_ | refine blk_alloc ?_ _)); exact BK163.out) Try.underlying24 rfl (by kernel_rfl)) rfl ?_
         exact ⟨by first | rfl | (simp [errW_none,errW_some] <;> rfl) | (simp [*,errW_none,errW_some] <;> rfl),by repeat (first | (with_reducible first | exact HB.out | apply below_alloc | apply pw_below_drewN | apply below_drew1 | refine below_set ?_ GE162.out | refine below_set ?_ GE163.out) | exact HB.out)⟩
        ·rw [if_neg c31] at H
         have c31b0 : decide ((a1.size : Int) ≤ 4) = false := decide_eq_false c31
         have c31b1 : decide (a1.size ≤ 4) = false := decide_eq_false (by omega)
         clear c31
         obtain ⟨ji35,hji35⟩ : ∃ j_ : Int,(mn (wrap64 (8 - (a0_0.size : Int))) (a1.size : Int)) = j_ := ⟨_,rfl⟩
         replace H : (if 0 ≤ (ji35) then (if (ji35) ≤ (a1.size : Int) then (if a0_0.size + (a1.extract 0 ((ji35) : Int).toNat).size ≤ 9223372036854775807 then (some (a0_0 ++ (a1.extract 0 ((ji35) : Int).toNat),a0_1,a0_2,ji35,0)) else (none)) else (none)) else (none)) = some (r1,r2,r3,r4,r5) := by first | (rw [hji35] at H; exact H) | (simp only [hji35] at H ⊢; exact H)
         have hji35_ : (if (a1.size : Int) < (wrap64 (8 - (a0_0.size : Int))) then (a1.size : Int) else (wrap64 (8 - (a0_0.size : Int)))) = ji35 := hji35
         by_cases c36 : 0 ≤ (ji35)
         ·rw [if_pos c36] at H
          have c36b0 := eq_true c36
          have c36b1 : decide (0 ≤ (ji35)) = true := decide_eq_true c36
          clear c36
          by_cases c37 : (ji35) ≤ (a1.size : Int)
          ·rw [if_pos c37] at H
           have c37b0 := eq_true c37
           have c37b1 : decide ((ji35) ≤ (a1.size : Int)) = true := decide_eq_true c37
           clear c37
           by_cases c38 : a0_0.size + (a1.extract 0 ((ji35) : Int).toNat).size ≤ 9223372036854775807
           ·rw [if_pos c38] at H
            have c38b0 := eq_true c38
            have c38b1 : decide (a0_0.size + (a1.extract 0 ((ji35) : Int).toNat).size ≤ 9223372036854775807) = true := decide_eq_true c38
            try have c38b2 : (9223372036854775807 < a0_0.size + (a1.extract 0 ((ji35) : Int).toNat).size) = False := eq_false (Nat.not_lt.2 c38)
            try have c38b3 : (9223372036854775807 < a0_0.size + (ji35).toNat) = False := eq_false (by have hh_ := c38; rw [ByteArray.size_extract] at hh_; simp only [decide_eq_true_eq] at *; omega)
            clear c38
            simp only [Option.some.injEq,Prod.mk.injEq] at H
            obtain ⟨rfl,rfl,rfl,rfl,rfl⟩ := H
            have hnb39 := NB162_163.out
            have hnc39 := NB163_162.out
            have hcz40_0 : wc.cell? ⟨gb162,0,none⟩ = some (.string a0_0) := (blk_cell BK162.out 0).trans rfl
            have hcz40_1 : wc.cell? ⟨gb162,1,none⟩ = some (.int .i64 a0_1) := (blk_cell BK162.out 1).trans rfl
            have hcz40_2 : wc.cell? ⟨gb162,2,none⟩ = some (.int .i64 a0_2) := (blk_cell BK162.out 2).trans rfl
            have hfz40_0 := blk_frozen BK162.out 0
            have hfz40_1 := blk_frozen BK162.out 1
            have hfz40_2 := blk_frozen BK162.out 2
            try go_wp2
            have n0_ := Aside0.mk (blk_drew BK162.out)
            have n1_ := Aside0.mk (blk_drew BK163.out)
            have n2_ := Aside0.mk (below_drew1 HB.out)
            clear BK162
            clear BK163
            clear HB
            have BK162 := n0_
            have BK163 := n1_
            have HB := n2_
            clear n0_ n1_ n2_
            refine start_ (n := 8) (S := fun w' => w'.cell? ⟨gb162,0,none⟩ = some (.string a0_0) ∧ w'.cell? ⟨gb162,1,none⟩ = some (.int .i64 a0_1) ∧ w'.cell? ⟨gb162,2,none⟩ = some (.int .i64 a0_2)) (ds := [7]) zb0 (by kernel_rfl) rfl rfl ⟨(blk_cell BK162.out 0).trans rfl,(blk_cell BK162.out 1).trans rfl,(blk_cell BK162.out 2).trans rfl⟩ (fun hHeld => ?_); refine with_tabW impl_PipePut.tab11 impl_PipePut.bits11 (fun HT_ HW_ => ?_)
            generalize wc.drew = w41 at BK162 BK163 HB hHeld ⊢
            refine pure_ (i := 0) (N := some 50) (v := ?_) (a' := ?_) zb1 rfl rfl (any_of HT_.out (by kernel_rfl)) (fun _ _ _ h => h) (Or.inl ⟨by rfl,?_⟩) ?_ ?_
            rotate_left
            ·intro w'
             go_simp
             with_reducible rfl
            rotate_left
            ·simp only [Act.put,List.setIfInBounds_toArray,List.set_cons_zero,List.set_cons_succ,i64_w,i32_w]
             rfl
            refine pure_ (i := 2) (N := some 52) (v := ?_) (a' := ?_) zb2 rfl rfl (any_of HT_.out (by kernel_rfl)) (fun _ _ _ h => h) (Or.inl ⟨by rfl,?_⟩) ?_ ?_
            rotate_left
            ·intro w'
             go_simp
             with_reducible rfl
            rotate_left
            ·simp only [Act.put,List.setIfInBounds_toArray,List.set_cons_zero,List.set_cons_succ,i64_w,i32_w]
             rfl
            refine pure_ (i := 3) (N := some 53) (v := ?_) (a' := ?_) zb3 rfl rfl (any_of HT_.out (by kernel_rfl)) (fun _ _ _ h => h) (Or.inl ⟨by rfl,?_⟩) ?_ ?_
            rotate_left
            ·intro w'
             go_simp
             with_reducible rfl
            rotate_left
            ·simp only [Act.put,List.setIfInBounds_toArray,List.set_cons_zero,List.set_cons_succ,i64_w,i32_w]
             rfl
            refine pure_ (i := 4) (N := some 54) (v := ?_) (a' := ?_) zb4 rfl rfl (any_of HT_.out (by kernel_rfl)) (fun _ _ _ h => h) (Or.inl ⟨by rfl,?_⟩) ?_ ?_
            rotate_left
            ·intro w'
             go_simp
             with_reducible rfl
            rotate_left
            ·simp only [Act.put,List.setIfInBounds_toArray,List.set_cons_zero,List.set_cons_succ,i64_w,i32_w]
             rfl
            refine take_ (i := 1) (N := some 51) (v := ?_) (a' := ?_) zb5 rfl rfl (take_ofW HT_.out HW_.out (by kernel_rfl)) (fun _ _ _ h => h) (Or.inl ⟨by rfl,?_⟩) hHeld ?_ ?_
            rotate_left
            ·rintro w' ⟨s0,s1,s2⟩
             go_simp
             with_reducible rfl
            rotate_left
            ·simp only [Act.put,List.setIfInBounds_toArray,List.set_cons_zero,List.set_cons_succ,i64_w,i32_w]
             rfl
            refine pure_ (i := 5) (N := some 55) (v := ?_) (a' := ?_) zb6 rfl rfl (any_of HT_.out (by kernel_rfl)) (fun _ _ _ h => h) (Or.inl ⟨by rfl,?_⟩) ?_ ?_
            rotate_left
            ·intro w'
             go_simp
             with_reducible rfl
            rotate_left
            ·simp only [Act.put,List.setIfInBounds_toArray,List.set_cons_zero,List.set_cons_succ,i64_w,i32_w]
             rfl
            refine pure_ (i := 6) (N := some 56) (v := ?_) (a' := ?_) zb7 rfl rfl (any_of HT_.out (by kernel_rfl)) (fun _ _ _ h => h) (Or.inl ⟨by rfl,?_⟩) ?_ ?_
            rotate_left
            ·intro w'
             go_simp
             with_reducible rfl
            rotate_left
            ·simp only [Act.put,List.setIfInBounds_toArray,List.set_cons_zero,List.set_cons_succ,i64_w,i32_w]
             rfl
            refine last_ (i := 7) (N := none) zb8 rfl rfl (one_of HT_.out (by kernel_rfl)) (by decide) (fun K hK => ?_)
            have hs42 : w41.cell? ⟨gb162,0,none⟩ = some (.string a0_0) := (blk_cell BK162.out 0).trans rfl
            have hfs42 := blk_frozen BK162.out 0
            have hns42_1 := NB163_162.out
            have hms42_1 := NB162_163.out
            refine skip_ (w1 := ?_) (by rfl) rfl ?_ ?_
            rotate_left
            ·go_simp
             rfl
            refine hK.out _ _ ?_
            clear hK K
            refine done_ (done_of HT_.out (by kernel_rfl)) ?_
            have hcz43_0 : w41.cell? ⟨gb162,0,none⟩ = some (.string a0_0) := (blk_cell BK162.out 0).trans rfl
            have hcz43_1 : w41.cell? ⟨gb162,1,none⟩ = some (.int .i64 a0_1) := (blk_cell BK162.out 1).trans rfl
            have hcz43_2 : w41.cell? ⟨gb162,2,none⟩ = some (.int .i64 a0_2) := (blk_cell BK162.out 2).trans rfl
            have hfz43_0 := blk_frozen BK162.out 0
            have hfz43_1 := blk_frozen BK162.out 1
            have hfz43_2 := blk_frozen BK162.out 2
            have hcz44_0 : w41.cell? ⟨gb163,0,none⟩ = some (.string (⟨#[]⟩ : ByteArray)) := (blk_cell BK163.out 0).trans rfl
            have hcz44_1 : w41.cell? ⟨gb163,1,none⟩ = some (.int .i64 0) := (blk_cell BK163.out 1).trans rfl
            have hcz44_2 : w41.cell? ⟨gb163,2,none⟩ = some (.int .i64 0) := (blk_cell BK163.out 2).trans rfl
            have hfz44_0 := blk_frozen BK163.out 0
            have hfz44_1 := blk_frozen BK163.out 1
            have hfz44_2 := blk_frozen BK163.out 2
            try go_wp2
            refine bodyPost_ret (results_ctt rfl _ _ gb163 24 #[.string (a0_0 ++ (a1.extract 0 ((ji35) : Int).toNat)),.int .i64 a0_1,.int .i64 a0_2] (0,0) _ rfl (by (with_reducible repeat (first | refine blk_drewN ?_ _ | refine blk_drew ?_ | refine blk_alloc ?_ _)); refine blk_put (cs := #[.string (a0_0 ++ (a1.extract 0 ((ji35) : Int).toNat)),.int .i64 a0_1,.int .i64 0]) ?_ 2 _ rfl; (with_reducible repeat (first | refine blk_drewN ?_ _ | refine blk_drew ?_ | refine blk_alloc ?_ _)); refine blk_put (cs := #[.string (a0_0 ++ (a1.extract 0 ((ji35) : Int).toNat)),.int .i64 0,.int .i64 0]) ?_ 1 _ rfl; (with_reducible repeat (first | refine blk_drewN ?_ _ | refine blk_drew ?_ | refine blk_alloc ?_ _)); refine blk_put (cs := #[.string (⟨#[]⟩ : ByteArray),.int .i64 0,.int .i64 0]) ?_ 0 _ rfl; (with_reducible repeat (first | refine blk_drewN ?_ _ | refine blk_drew ?_ | refine blk_alloc ?_ _)); refine blk_far ?_ NB163_162.out _; (with_reducible repeat (first | refine blk_drewN ?_ _ | refine blk_drew ?_ | refine blk_alloc ?_ _)); exact BK163.out) Try.underlying24 rfl (by kernel_rfl)) rfl ?_
            exact ⟨by first | rfl | (simp [errW_none,errW_some] <;> rfl) | (simp only [← hji35]; first | rfl | (simp [errW_none,errW_some] <;> rfl)) | (simp [*,errW_none,errW_some] <;> rfl),by repeat (first | (with_reducible first | exact HB.out | apply below_alloc | apply pw_below_drewN | apply below_drew1 | refine below_set ?_ GE162.out | refine below_set ?_ GE163.out) | exact HB.out)⟩
           ·rw [if_neg c38] at H
            exact absurd H (by simp)
          ·rw [if_neg c37] at H
           exact absurd H (by simp)
         ·rw [if_neg c36] at H
          exact absurd H (by simp)
       ·rw [if_neg c30] at H
        have c30b0 : decide ((wrap64 (8 - (a0_0.size : Int))) < (a1.size : Int)) = false := decide_eq_false c30
        clear c30
        obtain ⟨ji45,hji45⟩ : ∃ j_ : Int,(mn (wrap64 (8 - (a0_0.size : Int))) (a1.size : Int)) = j_ := ⟨_,rfl⟩
        replace H : (if 0 ≤ (ji45) then (if (ji45) ≤ (a1.size : Int) then (if a0_0.size + (a1.extract 0 ((ji45) : Int).toNat).size ≤ 9223372036854775807 then (some (a0_0 ++ (a1.extract 0 ((ji45) : Int).toNat),a0_1,a0_2,ji45,0)) else (none)) else (none)) else (none)) = some (r1,r2,r3,r4,r5) := by first | (rw [hji45] at H; exact H) | (simp only [hji45] at H ⊢; exact H)
        have hji45_ : (if (a1.size : Int) < (wrap64 (8 - (a0_0.size : Int))) then (a1.size : Int) else (wrap64 (8 - (a0_0.size : Int)))) = ji45 := hji45
        by_cases c46 : 0 ≤ (ji45)
        ·rw [if_pos c46] at H
         have c46b0 := eq_true c46
         have c46b1 : decide (0 ≤ (ji45)) = true := decide_eq_true c46
         clear c46
         by_cases c47 : (ji45) ≤ (a1.size : Int)
         ·rw [if_pos c47] at H
          have c47b0 := eq_true c47
          have c47b1 : decide ((ji45) ≤ (a1.size : Int)) = true := decide_eq_true c47
          clear c47
          by_cases c48 : a0_0.size + (a1.extract 0 ((ji45) : Int).toNat).size ≤ 9223372036854775807
          ·rw [if_pos c48] at H
           have c48b0 := eq_true c48
           have c48b1 : decide (a0_0.size + (a1.extract 0 ((ji45) : Int).toNat).size ≤ 9223372036854775807) = true := decide_eq_true c48
           try have c48b2 : (9223372036854775807 < a0_0.size + (a1.extract 0 ((ji45) : Int).toNat).size) = False := eq_false (Nat.not_lt.2 c48)
           try have c48b3 : (9223372036854775807 < a0_0.size + (ji45).toNat) = False := eq_false (by have hh_ := c48; rw [ByteArray.size_extract] at hh_; simp only [decide_eq_true_eq] at *; omega)
           clear c48
           simp only [Option.some.injEq,Prod.mk.injEq] at H
           obtain ⟨rfl,rfl,rfl,rfl,rfl⟩ := H
           have hnb49 := NB162_163.out
           have hnc49 := NB163_162.out
           have hcz50_0 : wc.cell? ⟨gb162,0,none⟩ = some (.string a0_0) := (blk_cell BK162.out 0).trans rfl
           have hcz50_1 : wc.cell? ⟨gb162,1,none⟩ = some (.int .i64 a0_1) := (blk_cell BK162.out 1).trans rfl
           have hcz50_2 : wc.cell? ⟨gb162,2,none⟩ = some (.int .i64 a0_2) := (blk_cell BK162.out 2).trans rfl
           have hfz50_0 := blk_frozen BK162.out 0
           have hfz50_1 := blk_frozen BK162.out 1
           have hfz50_2 := blk_frozen BK162.out 2
           try go_wp2
           have n0_ := Aside0.mk (blk_drew BK162.out)
           have n1_ := Aside0.mk (blk_drew BK163.out)
           have n2_ := Aside0.mk (below_drew1 HB.out)
           clear BK162
           clear BK163
           clear HB
           have BK162 := n0_
           have BK163 := n1_
           have HB := n2_
           clear n0_ n1_ n2_
           refine start_ (n := 8) (S := fun w' => w'.cell? ⟨gb162,0,none⟩ = some (.string a0_0) ∧ w'.cell? ⟨gb162,1,none⟩ = some (.int .i64 a0_1) ∧ w'.cell? ⟨gb162,2,none⟩ = some (.int .i64 a0_2)) (ds := [7]) zb0 (by kernel_rfl) rfl rfl ⟨(blk_cell BK162.out 0).trans rfl,(blk_cell BK162.out 1).trans rfl,(blk_cell BK162.out 2).trans rfl⟩ (fun hHeld => ?_); refine with_tabW impl_PipePut.tab11 impl_PipePut.bits11 (fun HT_ HW_ => ?_)
           generalize wc.drew = w51 at BK162 BK163 HB hHeld ⊢
           refine pure_ (i := 0) (N := some 50) (v := ?_) (a' := ?_) zb1 rfl rfl (any_of HT_.out (by kernel_rfl)) (fun _ _ _ h => h) (Or.inl ⟨by rfl,?_⟩) ?_ ?_
           rotate_left
           ·intro w'
            go_simp
            with_reducible rfl
           rotate_left
           ·simp only [Act.put,List.setIfInBounds_toArray,List.set_cons_zero,List.set_cons_succ,i64_w,i32_w]
            rfl
           refine pure_ (i := 2) (N := some 52) (v := ?_) (a' := ?_) zb2 rfl rfl (any_of HT_.out (by kernel_rfl)) (fun _ _ _ h => h) (Or.inl ⟨by rfl,?_⟩) ?_ ?_
           rotate_left
           ·intro w'
            go_simp
            with_reducible rfl
           rotate_left
           ·simp only [Act.put,List.setIfInBounds_toArray,List.set_cons_zero,List.set_cons_succ,i64_w,i32_w]
            rfl
           refine pure_ (i := 3) (N := some 53) (v := ?_) (a' := ?_) zb3 rfl rfl (any_of HT_.out (by kernel_rfl)) (fun _ _ _ h => h) (Or.inl ⟨by rfl,?_⟩) ?_ ?_
           rotate_left
           ·intro w'
            go_simp
            with_reducible rfl
           rotate_left
           ·simp only [Act.put,List.setIfInBounds_toArray,List.set_cons_zero,List.set_cons_succ,i64_w,i32_w]
            rfl
           refine pure_ (i := 4) (N := some 54) (v := ?_) (a' := ?_) zb4 rfl rfl (any_of HT_.out (by kernel_rfl)) (fun _ _ _ h => h) (Or.inl ⟨by rfl,?_⟩) ?_ ?_
           rotate_left
           ·intro w'
            go_simp
            with_reducible rfl
           rotate_left
           ·simp only [Act.put,List.setIfInBounds_toArray,List.set_cons_zero,List.set_cons_succ,i64_w,i32_w]
            rfl
           refine take_ (i := 1) (N := some 51) (v := ?_) (a' := ?_) zb5 rfl rfl (take_ofW HT_.out HW_.out (by kernel_rfl)) (fun _ _ _ h => h) (Or.inl ⟨by rfl,?_⟩) hHeld ?_ ?_
           rotate_left
           ·rintro w' ⟨s0,s1,s2⟩
            go_simp
            with_reducible rfl
           rotate_left
           ·simp only [Act.put,List.setIfInBounds_toArray,List.set_cons_zero,List.set_cons_succ,i64_w,i32_w]
            rfl
           refine pure_ (i := 5) (N := some 55) (v := ?_) (a' := ?_) zb6 rfl rfl (any_of HT_.out (by kernel_rfl)) (fun _ _ _ h => h) (Or.inl ⟨by rfl,?_⟩) ?_ ?_
           rotate_left
           ·intro w'
            go_simp
            with_reducible rfl
           rotate_left
           ·simp only [Act.put,List.setIfInBounds_toArray,List.set_cons_zero,List.set_cons_succ,i64_w,i32_w]
            rfl
           refine pure_ (i := 6) (N := some 56) (v := ?_) (a' := ?_) zb7 rfl rfl (any_of HT_.out (by kernel_rfl)) (fun _ _ _ h => h) (Or.inl ⟨by rfl,?_⟩) ?_ ?_
           rotate_left
           ·intro w'
            go_simp
            with_reducible rfl
           rotate_left
           ·simp only [Act.put,List.setIfInBounds_toArray,List.set_cons_zero,List.set_cons_succ,i64_w,i32_w]
            rfl
           refine last_ (i := 7) (N := none) zb8 rfl rfl (one_of HT_.out (by kernel_rfl)) (by decide) (fun K hK => ?_)
           have hs52 : w51.cell? ⟨gb162,0,none⟩ = some (.string a0_0) := (blk_cell BK162.out 0).trans rfl
           have hfs52 := blk_frozen BK162.out 0
           have hns52_1 := NB163_162.out
           have hms52_1 := NB162_163.out
           refine skip_ (w1 := ?_) (by rfl) rfl ?_ ?_
           rotate_left
           ·go_simp
            rfl
           refine hK.out _ _ ?_
           clear hK K
           refine done_ (done_of HT_.out (by kernel_rfl)) ?_
           have hcz53_0 : w51.cell? ⟨gb162,0,none⟩ = some (.string a0_0) := (blk_cell BK162.out 0).trans rfl
           have hcz53_1 : w51.cell? ⟨gb162,1,none⟩ = some (.int .i64 a0_1) := (blk_cell BK162.out 1).trans rfl
           have hcz53_2 : w51.cell? ⟨gb162,2,none⟩ = some (.int .i64 a0_2) := (blk_cell BK162.out 2).trans rfl
           have hfz53_0 := blk_frozen BK162.out 0
           have hfz53_1 := blk_frozen BK162.out 1
           have hfz53_2 := blk_frozen BK162.out 2
           have hcz54_0 : w51.cell? ⟨gb163,0,none⟩ = some (.string (⟨#[]⟩ : ByteArray)) := (blk_cell BK163.out 0).trans rfl
           have hcz54_1 : w51.cell? ⟨gb163,1,none⟩ = some (.int .i64 0) := (blk_cell BK163.out 1).trans rfl
           have hcz54_2 : w51.cell? ⟨gb163,2,none⟩ = some (.int .i64 0) := (blk_cell BK163.out 2).trans rfl
           have hfz54_0 := blk_frozen BK163.out 0
           have hfz54_1 := blk_frozen BK163.out 1
           have hfz54_2 := blk_frozen BK163.out 2
           try go_wp2
           refine bodyPost_ret (results_ctt rfl _ _ gb163 24 #[.string (a0_0 ++ (a1.extract 0 ((ji45) : Int).toNat)),.int .i64 a0_1,.int .i64 a0_2] (0,0) _ rfl (by (with_reducible repeat (first | refine blk_drewN ?_ _ | refine blk_drew ?_ | refine blk_alloc ?_ _)); refine blk_put (cs := #[.string (a0_0 ++ (a1.extract 0 ((ji45) : Int).toNat)),.int .i64 a0_1,.int .i64 0]) ?_ 2 _ rfl; (with_reducible repeat (first | refine blk_drewN ?_ _ | refine blk_drew ?_ | refine blk_alloc ?_ _)); refine blk_put (cs := #[.string (a0_0 ++ (a1.extract 0 ((ji45) : Int).toNat)),.int .i64 0,.int .i64 0]) ?_ 1 _ rfl; (with_reducible repeat (first | refine blk_drewN ?_ _ | refine blk_drew ?_ | refine blk_alloc ?_ _)); refine blk_put (cs := #[.string (⟨#[]⟩ : ByteArray),.int .i64 0,.int .i64 0]) ?_ 0 _ rfl; (with_reducible repeat (first | refine blk_drewN ?_ _ | refine blk_drew ?_ | refine blk_alloc ?_ _)); refine blk_far ?_ NB163_162.out _; (with_reducible repeat (first | refine blk_drewN ?_ _ | refine blk_drew ?_ | refine blk_alloc ?_ _)); exact BK163.out) Try.underlying24 rfl (by kernel_rfl)) rfl ?_
           exact ⟨by first | rfl | (simp [errW_none,errW_some] <;> rfl) | (simp only [← hji45]; first | rfl | (simp [errW_none,errW_some] <;> rfl)) | (simp [*,errW_none,errW_some] <;> rfl),by repeat (first | (with_reducible first | exact HB.out | apply below_alloc | apply pw_below_drewN | apply below_drew1 | refine below_set ?_ GE162.out | refine below_set ?_ GE163.out) | exact HB.out)⟩
          ·rw [if_neg c48] at H
           exact absurd H (by simp)
         ·rw [if_neg c47] at H
          exact absurd H (by simp)
        ·rw [if_neg c46] at H
         exact absurd H (by simp)

end Go.Proofs.Ytadbeajdccfceaa.XFnPipeReady
