-- Written by the kit's printer at the call of wip/tools/xprint.sh (this session's knobs and contracts). Not trusted: Lean checks it.
import Derived.Test.YtecniihieninjaaXFnExactLockOkx0
import Derived.Test.YtecniihieninjaaXFnExactLockOkx4
namespace Go.Proofs.Ytecniihieninjaa.XFnExactLockOk
open Go.RowKit Go.Proofs.YtecniihieninjaaW.PrintWords Go.Proofs.YtecniihieninjaaW.PrintLast Go.Proofs.YtecniihieninjaaW.PrintMore
attribute [local go_sem] max2_int min2_int max_two min_two max_three min_three max_four min_four   -- for this text's walks alone
set_option linter.unusedVariables false
set_option linter.unusedSimpArgs false

/-! ### spec_LockOk: function 19 -/
mutual
def spec_LockOk.j0 : Nat → Bool → Int → List (S60) → List Int → Option (Bool)
 | 0,_,_,_,_ => none
 | k + 1,x16,x130000,x130001,x130002 => if x16 = true then (some false) else (spec_LockOk.l0 k 0 0 x130000 x130001 x130002)
def spec_LockOk.l0 : Nat → Int → Int → Int → List (S60) → List Int → Option (Bool)
 | 0,_,_,_,_,_ => none
 | k + 1,x3,x4,x130000,x130001,x130002 => if x4 < (x130001.length : Int) then (if 0 ≤ x4 then ((spec_l6In.f ((rd_T60 x130001 x4).f0) 0 6).bind fun t134 => (if t134 = true then ((spec_l6In.f ((rd_T60 x130001 x4).f1) 0 2).bind fun t135 => (if t135 = true then (if ((rd_T60 x130001 x4).f0) = 1 then ((spec_l6In.f ((rd_T60 x130001 x4).f2) 0 3).bind fun t136 => (if t136 = true then (if ((rd_T60 x130001 x4).f0) > 0 then (if ((rd_T60 x130001 x4).f2) = 0 then (spec_LockOk.j2 k x3 x4 true x130000 x130001 x130002 ((rd_T60 x130001 x4).f0) ((rd_T60 x130001 x4).f1) ((rd_T60 x130001 x4).f2) ((rd_T60 x130001 x4).f3)) else (if (rd_T60 x130001 x4).f3 = true then (if ((rd_T60 x130001 x4).f0) = 3 then ((spec_l5In.f k x130002 x4).bind fun t137 => (spec_LockOk.j2 k x3 x4 (((rd_T60 x130001 x4).f3) != t137) x130000 x130001 x130002 ((rd_T60 x130001 x4).f0) ((rd_T60 x130001 x4).f1) ((rd_T60 x130001 x4).f2) ((rd_T60 x130001 x4).f3))) else (spec_LockOk.j2 k x3 x4 true x130000 x130001 x130002 ((rd_T60 x130001 x4).f0) ((rd_T60 x130001 x4).f1) ((rd_T60 x130001 x4).f2) ((rd_T60 x130001 x4).f3))) else ((spec_l5In.f k x130002 x4).bind fun t138 => (spec_LockOk.j2 k x3 x4 (((rd_T60 x130001 x4).f3) != t138) x130000 x130001 x130002 ((rd_T60 x130001 x4).f0) ((rd_T60 x130001 x4).f1) ((rd_T60 x130001 x4).f2) ((rd_T60 x130001 x4).f3))))) else (if (rd_T60 x130001 x4).f3 = true then (if ((rd_T60 x130001 x4).f0) = 3 then ((spec_l5In.f k x130002 x4).bind fun t139 => (spec_LockOk.j2 k x3 x4 (((rd_T60 x130001 x4).f3) != t139) x130000 x130001 x130002 ((rd_T60 x130001 x4).f0) ((rd_T60 x130001 x4).f1) ((rd_T60 x130001 x4).f2) ((rd_T60 x130001 x4).f3))) else (spec_LockOk.j2 k x3 x4 true x130000 x130001 x130002 ((rd_T60 x130001 x4).f0) ((rd_T60 x130001 x4).f1) ((rd_T60 x130001 x4).f2) ((rd_T60 x130001 x4).f3))) else ((spec_l5In.f k x130002 x4).bind fun t140 => (spec_LockOk.j2 k x3 x4 (((rd_T60 x130001 x4).f3) != t140) x130000 x130001 x130002 ((rd_T60 x130001 x4).f0) ((rd_T60 x130001 x4).f1) ((rd_T60 x130001 x4).f2) ((rd_T60 x130001 x4).f3))))) else (spec_LockOk.j2 k x3 x4 true x130000 x130001 x130002 ((rd_T60 x130001 x4).f0) ((rd_T60 x130001 x4).f1) ((rd_T60 x130001 x4).f2) ((rd_T60 x130001 x4).f3)))) else (if ((rd_T60 x130001 x4).f1) = 0 then ((spec_l6In.f ((rd_T60 x130001 x4).f2) 0 3).bind fun t141 => (if t141 = true then (if ((rd_T60 x130001 x4).f0) > 0 then (if ((rd_T60 x130001 x4).f2) = 0 then (spec_LockOk.j2 k x3 x4 true x130000 x130001 x130002 ((rd_T60 x130001 x4).f0) ((rd_T60 x130001 x4).f1) ((rd_T60 x130001 x4).f2) ((rd_T60 x130001 x4).f3)) else (if (rd_T60 x130001 x4).f3 = true then (if ((rd_T60 x130001 x4).f0) = 3 then ((spec_l5In.f k x130002 x4).bind fun t142 => (spec_LockOk.j2 k x3 x4 (((rd_T60 x130001 x4).f3) != t142) x130000 x130001 x130002 ((rd_T60 x130001 x4).f0) ((rd_T60 x130001 x4).f1) ((rd_T60 x130001 x4).f2) ((rd_T60 x130001 x4).f3))) else (spec_LockOk.j2 k x3 x4 true x130000 x130001 x130002 ((rd_T60 x130001 x4).f0) ((rd_T60 x130001 x4).f1) ((rd_T60 x130001 x4).f2) ((rd_T60 x130001 x4).f3))) else ((spec_l5In.f k x130002 x4).bind fun t143 => (spec_LockOk.j2 k x3 x4 (((rd_T60 x130001 x4).f3) != t143) x130000 x130001 x130002 ((rd_T60 x130001 x4).f0) ((rd_T60 x130001 x4).f1) ((rd_T60 x130001 x4).f2) ((rd_T60 x130001 x4).f3))))) else (if (rd_T60 x130001 x4).f3 = true then (if ((rd_T60 x130001 x4).f0) = 3 then ((spec_l5In.f k x130002 x4).bind fun t144 => (spec_LockOk.j2 k x3 x4 (((rd_T60 x130001 x4).f3) != t144) x130000 x130001 x130002 ((rd_T60 x130001 x4).f0) ((rd_T60 x130001 x4).f1) ((rd_T60 x130001 x4).f2) ((rd_T60 x130001 x4).f3))) else (spec_LockOk.j2 k x3 x4 true x130000 x130001 x130002 ((rd_T60 x130001 x4).f0) ((rd_T60 x130001 x4).f1) ((rd_T60 x130001 x4).f2) ((rd_T60 x130001 x4).f3))) else ((spec_l5In.f k x130002 x4).bind fun t145 => (spec_LockOk.j2 k x3 x4 (((rd_T60 x130001 x4).f3) != t145) x130000 x130001 x130002 ((rd_T60 x130001 x4).f0) ((rd_T60 x130001 x4).f1) ((rd_T60 x130001 x4).f2) ((rd_T60 x130001 x4).f3))))) else (spec_LockOk.j2 k x3 x4 true x130000 x130001 x130002 ((rd_T60 x130001 x4).f0) ((rd_T60 x130001 x4).f1) ((rd_T60 x130001 x4).f2) ((rd_T60 x130001 x4).f3)))) else (spec_LockOk.j2 k x3 x4 true x130000 x130001 x130002 ((rd_T60 x130001 x4).f0) ((rd_T60 x130001 x4).f1) ((rd_T60 x130001 x4).f2) ((rd_T60 x130001 x4).f3)))) else (spec_LockOk.j2 k x3 x4 true x130000 x130001 x130002 ((rd_T60 x130001 x4).f0) ((rd_T60 x130001 x4).f1) ((rd_T60 x130001 x4).f2) ((rd_T60 x130001 x4).f3)))) else (spec_LockOk.j2 k x3 x4 true x130000 x130001 x130002 ((rd_T60 x130001 x4).f0) ((rd_T60 x130001 x4).f1) ((rd_T60 x130001 x4).f2) ((rd_T60 x130001 x4).f3)))) else (none)) else (some (x3 == (x130002.length : Int)))
def spec_LockOk.j2 : Nat → Int → Int → Bool → Int → List (S60) → List Int → Int → Int → Int → Bool → Option (Bool)
 | 0,_,_,_,_,_,_,_,_,_,_ => none
 | k + 1,x3,x4,x82,x130000,x130001,x130002,x134000,x134001,x134002,x134003 => if x82 = true then (some false) else (if x134003 = true then (spec_LockOk.l0 k (wrap64 (x3 + 1)) (wrap64 (x4 + 1)) x130000 x130001 x130002) else (spec_LockOk.l0 k x3 (wrap64 (x4 + 1)) x130000 x130001 x130002))
end
def spec_LockOk.f (k : Nat) (a0_0 : Int) (l0_1 : List (S60)) (l0_2 : List Int) : Option (Bool) := (spec_l6In.f a0_0 0 2).bind fun t130 => (if t130 = true then ((spec_l6In.f (l0_1.length : Int) 1 4).bind fun t131 => (spec_LockOk.j0 k (!t131) a0_0 l0_1 l0_2)) else (spec_LockOk.j0 k true a0_0 l0_1 l0_2))
theorem spec_LockOk.mono_l : ∀ k,(∀ y0 y1 y2 y3,LeO (spec_LockOk.j0 k y0 y1 y2 y3) (spec_LockOk.j0 (k + 1) y0 y1 y2 y3)) ∧ (∀ y0 y1 y2 y3 y4,LeO (spec_LockOk.l0 k y0 y1 y2 y3 y4) (spec_LockOk.l0 (k + 1) y0 y1 y2 y3 y4)) ∧ (∀ y0 y1 y2 y3 y4 y5 y6 y7 y8 y9,LeO (spec_LockOk.j2 k y0 y1 y2 y3 y4 y5 y6 y7 y8 y9) (spec_LockOk.j2 (k + 1) y0 y1 y2 y3 y4 y5 y6 y7 y8 y9))
 | 0 => ⟨fun _ _ _ _ r h => by simp [spec_LockOk.j0] at h,fun _ _ _ _ _ r h => by simp [spec_LockOk.l0] at h,fun _ _ _ _ _ _ _ _ _ _ r h => by simp [spec_LockOk.j2] at h⟩
 | k + 1 => by
  obtain ⟨ih0,ih1,ih2⟩ := spec_LockOk.mono_l k
  refine ⟨?_,?_,?_⟩
  ·intro y0 y1 y2 y3
   unfold spec_LockOk.j0
   repeat' first
   | (with_reducible exact ih0 _ _ _ _)
   | (with_reducible exact ih1 _ _ _ _ _)
   | (with_reducible exact ih2 _ _ _ _ _ _ _ _ _ _)
   | (with_reducible exact spec_l5In.mono _ _ _)
   | (with_reducible exact LeO.refl _)
   | (with_reducible exact LeO.none _)
   | (with_reducible refine LeO.ite ?_ ?_)
   | (with_reducible refine LeO.bind ?_ (fun _ => ?_))
   | exact ih0 _ _ _ _
   | exact ih1 _ _ _ _ _
   | exact ih2 _ _ _ _ _ _ _ _ _ _
   | exact spec_l5In.mono _ _ _
   | exact LeO.none _
   | refine LeO.ite ?_ ?_
   | refine LeO.bind ?_ (fun _ => ?_)
  ·intro y0 y1 y2 y3 y4
   unfold spec_LockOk.l0
   repeat' first
   | (with_reducible exact ih0 _ _ _ _)
   | (with_reducible exact ih1 _ _ _ _ _)
   | (with_reducible exact ih2 _ _ _ _ _ _ _ _ _ _)
   | (with_reducible exact spec_l5In.mono _ _ _)
   | (with_reducible exact LeO.refl _)
   | (with_reducible exact LeO.none _)
   | (with_reducible refine LeO.ite ?_ ?_)
   | (with_reducible refine LeO.bind ?_ (fun _ => ?_))
   | exact ih0 _ _ _ _
   | exact ih1 _ _ _ _ _
   | exact ih2 _ _ _ _ _ _ _ _ _ _
   | exact spec_l5In.mono _ _ _
   | exact LeO.none _
   | refine LeO.ite ?_ ?_
   | refine LeO.bind ?_ (fun _ => ?_)
  ·intro y0 y1 y2 y3 y4 y5 y6 y7 y8 y9
   unfold spec_LockOk.j2
   repeat' first
   | (with_reducible exact ih0 _ _ _ _)
   | (with_reducible exact ih1 _ _ _ _ _)
   | (with_reducible exact ih2 _ _ _ _ _ _ _ _ _ _)
   | (with_reducible exact spec_l5In.mono _ _ _)
   | (with_reducible exact LeO.refl _)
   | (with_reducible exact LeO.none _)
   | (with_reducible refine LeO.ite ?_ ?_)
   | (with_reducible refine LeO.bind ?_ (fun _ => ?_))
   | exact ih0 _ _ _ _
   | exact ih1 _ _ _ _ _
   | exact ih2 _ _ _ _ _ _ _ _ _ _
   | exact spec_l5In.mono _ _ _
   | exact LeO.none _
   | refine LeO.ite ?_ ?_
   | refine LeO.bind ?_ (fun _ => ?_)
theorem spec_LockOk.mono : ∀ a0 a1 a2 k,LeO (spec_LockOk.f k a0 a1 a2) (spec_LockOk.f (k + 1) a0 a1 a2) := by
 intro a0 a1 a2 k
 obtain ⟨ih0,ih1,ih2⟩ := spec_LockOk.mono_l k
 unfold spec_LockOk.f
 repeat' first
   | (with_reducible exact ih0 _ _ _ _)
   | (with_reducible exact ih1 _ _ _ _ _)
   | (with_reducible exact ih2 _ _ _ _ _ _ _ _ _ _)
   | (with_reducible exact spec_l5In.mono _ _ _)
   | (with_reducible exact LeO.refl _)
   | (with_reducible exact LeO.none _)
   | (with_reducible refine LeO.ite ?_ ?_)
   | (with_reducible refine LeO.bind ?_ (fun _ => ?_))
   | exact ih0 _ _ _ _
   | exact ih1 _ _ _ _ _
   | exact ih2 _ _ _ _ _ _ _ _ _ _
   | exact spec_l5In.mono _ _ _
   | exact LeO.none _
   | refine LeO.ite ?_ ?_
   | refine LeO.bind ?_ (fun _ => ?_)
set_option maxHeartbeats 8000000 in
set_option maxRecDepth 100000 in
theorem spec_LockOk.calls (k : Nat) (a0_0 : Int) (A0_1 : Option Addr) (c0_1 : Nat) (l0_1 : List (S60)) (A0_2 : Option Addr) (c0_2 : Nat) (l0_2 : List Int) (r : Bool) (w : World) (hr0_1 : Kd.C k60 w A0_1 l0_1.length l0_1) (hc0_1 : l0_1.length ≤ c0_1) (hr0_2 : Kd.C (Kd.int .i64) w A0_2 l0_2.length l0_2) (hc0_2 : l0_2.length ≤ c0_2) (h : spec_LockOk.f k a0_0 l0_1 l0_2 = some r) :
  Calls Try.prog 19 #[.agg #[.int .i64 a0_0,.slice A0_1 l0_1.length c0_1,.slice A0_2 l0_2.length c0_2]] w fun e w' => e = .returned (.bool r) ∧ Below w.heap.size w w' := by
 have hu28 := Try.underlying28
 have hu60 := Try.underlying60
 have HR0_1 := Aside0.mk hr0_1
 have HC0_1 := Aside0.mk hc0_1
 clear hr0_1 hc0_1
 have HR0_2 := Aside0.mk hr0_2
 have HC0_2 := Aside0.mk hc0_2
 clear hr0_2 hc0_2
 have HB := Aside0.mk (Below.refl w.heap.size w)
 have H : ((spec_l6In.f a0_0 0 2).bind fun t130 => (if t130 = true then ((spec_l6In.f (l0_1.length : Int) 1 4).bind fun t131 => (spec_LockOk.j0 k (!t131) a0_0 l0_1 l0_2)) else (spec_LockOk.j0 k true a0_0 l0_1 l0_2))) = some r := h
 clear h
 have HC2 := Aside0.mk H
 clear H
 go_enter Try.func19,Try.ntmps19
 go_upto_region 1 with (first | ((with_reducible refine gate_dst (N := 1) rfl ?_); (try (refine gate_guard (by rfl) ?_; dsimp only)); refine box_event ?hg (N := 1) ?hd (cs := #[.int .i64 a0_0,.slice A0_1 l0_1.length c0_1,.slice A0_2 l0_2.length c0_2]) (t := 28) ?hr ?_; (case hd => rfl); (case hg => rfl); (case hr => first | (go_simp; done) | (go_simp; rfl)); intro gb129 hg w3 hbox hb; have n0_ := Aside0.mk (below_step (by repeat (first | (with_reducible first | exact HB.out | apply below_alloc | apply pw_below_drewN | apply below_drew1) | exact HB.out)) hb); have n1_ := Aside0.mk (hbox); have n2_ := Aside0.mk ((by rw [hg]; exact (below_size (by repeat (first | (with_reducible first | exact HB.out | apply below_alloc | apply pw_below_drewN | apply below_drew1) | exact HB.out))) : w.heap.size ≤ gb129)); have n3_ := Aside0.mk ((by rw [hg]; exact (below_size (by repeat (first | (with_reducible first | exact HB.out | apply below_alloc | apply pw_below_drewN | apply below_drew1) | exact HB.out))) : w.heap.size ≤ gb129)); clear HB; have HB := n0_; have BK129 := n1_; have GW129 := n2_; have GE129 := n3_; clear n0_ n1_ n2_ n3_; clear hb hbox hg))
 repeat (go_quiet (first | ((with_reducible refine gate_dst (N := 1) rfl ?_); (try (refine gate_guard (by rfl) ?_; dsimp only)); refine box_event ?hg (N := 1) ?hd (cs := #[.int .i64 a0_0,.slice A0_1 l0_1.length c0_1,.slice A0_2 l0_2.length c0_2]) (t := 28) ?hr ?_; (case hd => rfl); (case hg => rfl); (case hr => first | (go_simp; done) | (go_simp; rfl)); intro gb129 hg w3 hbox hb; have n0_ := Aside0.mk (below_step (by repeat (first | (with_reducible first | exact HB.out | apply below_alloc | apply pw_below_drewN | apply below_drew1) | exact HB.out)) hb); have n1_ := Aside0.mk (hbox); have n2_ := Aside0.mk ((by rw [hg]; exact (below_size (by repeat (first | (with_reducible first | exact HB.out | apply below_alloc | apply pw_below_drewN | apply below_drew1) | exact HB.out))) : w.heap.size ≤ gb129)); have n3_ := Aside0.mk ((by rw [hg]; exact (below_size (by repeat (first | (with_reducible first | exact HB.out | apply below_alloc | apply pw_below_drewN | apply below_drew1) | exact HB.out))) : w.heap.size ≤ gb129)); clear HB; have HB := n0_; have BK129 := n1_; have GW129 := n2_; have GE129 := n3_; clear n0_ n1_ n2_ n3_; clear hb hbox hg)); go_upto_region 1 with (first | ((with_reducible refine gate_dst (N := 1) rfl ?_); (try (refine gate_guard (by rfl) ?_; dsimp only)); refine box_event ?hg (N := 1) ?hd (cs := #[.int .i64 a0_0,.slice A0_1 l0_1.length c0_1,.slice A0_2 l0_2.length c0_2]) (t := 28) ?hr ?_; (case hd => rfl); (case hg => rfl); (case hr => first | (go_simp; done) | (go_simp; rfl)); intro gb129 hg w3 hbox hb; have n0_ := Aside0.mk (below_step (by repeat (first | (with_reducible first | exact HB.out | apply below_alloc | apply pw_below_drewN | apply below_drew1) | exact HB.out)) hb); have n1_ := Aside0.mk (hbox); have n2_ := Aside0.mk ((by rw [hg]; exact (below_size (by repeat (first | (with_reducible first | exact HB.out | apply below_alloc | apply pw_below_drewN | apply below_drew1) | exact HB.out))) : w.heap.size ≤ gb129)); have n3_ := Aside0.mk ((by rw [hg]; exact (below_size (by repeat (first | (with_reducible first | exact HB.out | apply below_alloc | apply pw_below_drewN | apply below_drew1) | exact HB.out))) : w.heap.size ≤ gb129)); clear HB; have HB := n0_; have BK129 := n1_; have GW129 := n2_; have GE129 := n3_; clear n0_ n1_ n2_ n3_; clear hb hbox hg)))
 (try simp only [Act.put,List.setIfInBounds_toArray,List.set_cons_zero,List.set_cons_succ])
 go_cut [16] (fun v16 wc => ∃ (kq : Nat) (x16_1 : Bool),v16 = .bool x16_1 ∧ Aside0 (spec_LockOk.j0 kq x16_1 a0_0 l0_1 l0_2 = some r) ∧ Aside0 (kq ≤ k) ∧ Aside0 (wc.heap[gb129]? = some (.cells #[.int .i64 a0_0,(.slice A0_1 l0_1.length c0_1),(.slice A0_2 l0_2.length c0_2)] 28 (0,0))) ∧ Aside0 (Below w.heap.size w wc))
 case first =>
  have H := HC2.out
  clear HC2
  replace H := Option.bind_eq_some_iff.mp H
  obtain ⟨t130,A40,H⟩ := H
  replace H : (if t130 = true then ((spec_l6In.f (l0_1.length : Int) 1 4).bind fun t131 => (spec_LockOk.j0 k (!t131) a0_0 l0_1 l0_2)) else (spec_LockOk.j0 k true a0_0 l0_1 l0_2)) = some r := H
  have A4 := Aside0.mk A40
  clear A40
  by_cases c5 : t130 = true
  ·subst c5
   have H1 : ((spec_l6In.f (l0_1.length : Int) 1 4).bind fun t131 => (spec_LockOk.j0 k (!t131) a0_0 l0_1 l0_2)) = some r := by rw [if_pos rfl] at H; exact H
   clear H
   have H := H1
   clear H1
   replace H := Option.bind_eq_some_iff.mp H
   obtain ⟨t131,A60,H⟩ := H
   replace H : (spec_LockOk.j0 k (!t131) a0_0 l0_1 l0_2) = some r := H
   have A6 := Aside0.mk A60
   clear A60
   have H' := Aside0.mk H
   clear H
   have hcz7_0 : w3.cell? ⟨gb129,0,none⟩ = some (.int .i64 a0_0) := (blk_cell BK129.out 0).trans rfl
   have hcz7_1 : w3.cell? ⟨gb129,1,none⟩ = some (.slice A0_1 l0_1.length c0_1) := (blk_cell BK129.out 1).trans rfl
   have hcz7_2 : w3.cell? ⟨gb129,2,none⟩ = some (.slice A0_2 l0_2.length c0_2) := (blk_cell BK129.out 2).trans rfl
   have hfz7_0 := blk_frozen BK129.out 0
   have hfz7_1 := blk_frozen BK129.out 1
   have hfz7_2 := blk_frozen BK129.out 2
   go_wp2_with (first | (go_at_call 31; (with_reducible refine (spec_l6In.calls a0_0 0 2 true _ A4.out).mono ?_); rintro e w' ⟨rfl,⟨nd,rfl⟩⟩; (try first | exact ⟨rfl,_,World.drewN_drewN _ _ _⟩ | exact ⟨rfl,_,Eq.trans (World.drewN_drewN _ _ _) (congrArg (World.drewN _) (Nat.add_assoc _ _ _))⟩)) | (go_at_call 31; (with_reducible refine (spec_l6In.calls (l0_1.length : Int) 1 4 t131 _ A6.out).mono ?_); rintro e w' ⟨rfl,⟨nd,rfl⟩⟩; (try first | exact ⟨rfl,_,World.drewN_drewN _ _ _⟩ | exact ⟨rfl,_,Eq.trans (World.drewN_drewN _ _ _) (congrArg (World.drewN _) (Nat.add_assoc _ _ _))⟩)))
   repeat (go_quiet (first | (go_at_call 31; (with_reducible refine (spec_l6In.calls a0_0 0 2 true _ A4.out).mono ?_); rintro e w' ⟨rfl,⟨nd,rfl⟩⟩; (try first | exact ⟨rfl,_,World.drewN_drewN _ _ _⟩ | exact ⟨rfl,_,Eq.trans (World.drewN_drewN _ _ _) (congrArg (World.drewN _) (Nat.add_assoc _ _ _))⟩)) | (go_at_call 31; (with_reducible refine (spec_l6In.calls (l0_1.length : Int) 1 4 t131 _ A6.out).mono ?_); rintro e w' ⟨rfl,⟨nd,rfl⟩⟩; (try first | exact ⟨rfl,_,World.drewN_drewN _ _ _⟩ | exact ⟨rfl,_,Eq.trans (World.drewN_drewN _ _ _) (congrArg (World.drewN _) (Nat.add_assoc _ _ _))⟩))); try go_wp2_with (first | (go_at_call 31; (with_reducible refine (spec_l6In.calls a0_0 0 2 true _ A4.out).mono ?_); rintro e w' ⟨rfl,⟨nd,rfl⟩⟩; (try first | exact ⟨rfl,_,World.drewN_drewN _ _ _⟩ | exact ⟨rfl,_,Eq.trans (World.drewN_drewN _ _ _) (congrArg (World.drewN _) (Nat.add_assoc _ _ _))⟩)) | (go_at_call 31; (with_reducible refine (spec_l6In.calls (l0_1.length : Int) 1 4 t131 _ A6.out).mono ?_); rintro e w' ⟨rfl,⟨nd,rfl⟩⟩; (try first | exact ⟨rfl,_,World.drewN_drewN _ _ _⟩ | exact ⟨rfl,_,Eq.trans (World.drewN_drewN _ _ _) (congrArg (World.drewN _) (Nat.add_assoc _ _ _))⟩))))
   go_meet
   case rel => exact ⟨_,(!t131),(by first | rfl | (simp; done) | (simp [*]; done)),H',⟨by first | omega | exact Nat.le_refl _⟩,⟨by (with_reducible repeat (first | refine blk_drewN ?_ _ | refine blk_drew ?_ | refine blk_alloc ?_ _)); first | exact BK129.out | (simp only [*]; exact BK129.out)⟩,⟨by repeat (first | (with_reducible first | exact HB.out | apply below_alloc | apply pw_below_drewN | apply below_drew1 | refine below_set ?_ GE129.out) | exact HB.out)⟩⟩
  ·replace c5 := Bool.eq_false_iff.mpr c5
   subst c5
   have H1 : (spec_LockOk.j0 k true a0_0 l0_1 l0_2) = some r := by rw [if_neg (show ¬ (false = true) by decide)] at H; exact H
   clear H
   have H := H1
   clear H1
   have H' := Aside0.mk H
   clear H
   have hcz8_0 : w3.cell? ⟨gb129,0,none⟩ = some (.int .i64 a0_0) := (blk_cell BK129.out 0).trans rfl
   have hcz8_1 : w3.cell? ⟨gb129,1,none⟩ = some (.slice A0_1 l0_1.length c0_1) := (blk_cell BK129.out 1).trans rfl
   have hcz8_2 : w3.cell? ⟨gb129,2,none⟩ = some (.slice A0_2 l0_2.length c0_2) := (blk_cell BK129.out 2).trans rfl
   have hfz8_0 := blk_frozen BK129.out 0
   have hfz8_1 := blk_frozen BK129.out 1
   have hfz8_2 := blk_frozen BK129.out 2
   go_wp2_with (first | (go_at_call 31; (with_reducible refine (spec_l6In.calls a0_0 0 2 false _ A4.out).mono ?_); rintro e w' ⟨rfl,⟨nd,rfl⟩⟩; (try first | exact ⟨rfl,_,World.drewN_drewN _ _ _⟩ | exact ⟨rfl,_,Eq.trans (World.drewN_drewN _ _ _) (congrArg (World.drewN _) (Nat.add_assoc _ _ _))⟩)))
   repeat (go_quiet (first | (go_at_call 31; (with_reducible refine (spec_l6In.calls a0_0 0 2 false _ A4.out).mono ?_); rintro e w' ⟨rfl,⟨nd,rfl⟩⟩; (try first | exact ⟨rfl,_,World.drewN_drewN _ _ _⟩ | exact ⟨rfl,_,Eq.trans (World.drewN_drewN _ _ _) (congrArg (World.drewN _) (Nat.add_assoc _ _ _))⟩))); try go_wp2_with (first | (go_at_call 31; (with_reducible refine (spec_l6In.calls a0_0 0 2 false _ A4.out).mono ?_); rintro e w' ⟨rfl,⟨nd,rfl⟩⟩; (try first | exact ⟨rfl,_,World.drewN_drewN _ _ _⟩ | exact ⟨rfl,_,Eq.trans (World.drewN_drewN _ _ _) (congrArg (World.drewN _) (Nat.add_assoc _ _ _))⟩))))
   go_meet
   case rel => exact ⟨_,(true),(by first | rfl | (simp; done) | (simp [*]; done)),H',⟨by first | omega | exact Nat.le_refl _⟩,⟨by (with_reducible repeat (first | refine blk_drewN ?_ _ | refine blk_drew ?_ | refine blk_alloc ?_ _)); first | exact BK129.out | (simp only [*]; exact BK129.out)⟩,⟨by repeat (first | (with_reducible first | exact HB.out | apply below_alloc | apply pw_below_drewN | apply below_drew1 | refine below_set ?_ GE129.out) | exact HB.out)⟩⟩
 case rest =>
  clear HC2
  try clear c1
  try clear p2
  try clear c5
  try clear hcz7_0
  try clear hcz7_1
  try clear hcz7_2
  try clear hcz8_0
  try clear hcz8_1
  try clear hcz8_2
  try clear hfz7_0
  try clear hfz7_1
  try clear hfz7_2
  try clear hfz8_0
  try clear hfz8_1
  try clear hfz8_2
  obtain ⟨kq,x16_1,rfl,HA,HJ1,BK129,HB⟩ := hcut
  cases kq with
  | zero => exact absurd HA.out (by simp [spec_LockOk.j0])
  | succ kj1 =>
   have H := HA.out
   clear HA
   simp only [spec_LockOk.j0] at H
   by_cases c9 : x16_1 = true
   ·subst c9
    have H1 : (some false) = some r := by rw [if_pos rfl] at H; exact H
    clear H
    have H := H1
    clear H1
    obtain rfl := Option.some.inj H
    simp only [Option.some.injEq,Prod.mk.injEq] at H
    obtain ⟨rfl⟩ := H
    go_wp2
    repeat (go_quiet (fail); try go_wp2)
    go_ret
    exact ⟨by first | rfl | (simp [errW_none,errW_some] <;> rfl) | (simp [*,errW_none,errW_some] <;> rfl),by repeat (first | (with_reducible first | exact HB.out | apply below_alloc | apply pw_below_drewN | apply below_drew1 | refine below_set ?_ GE129.out) | exact HB.out)⟩
   ·replace c9 := Bool.eq_false_iff.mpr c9
    subst c9
    have H1 : (spec_LockOk.l0 kj1 0 0 a0_0 l0_1 l0_2) = some r := by rw [if_neg (show ¬ (false = true) by decide)] at H; exact H
    clear H
    have H := H1
    clear H1
    have H' := Aside0.mk H
    clear H
    go_wp2
    repeat (go_quiet (fail); try go_wp2)
    go_loopg [3,4] kj1 (fun kq v3 v4 w' => ∃ (x3_2 : Int) (x4_2 : Int),v3 = .int .i64 x3_2 ∧ v4 = .int .i64 x4_2 ∧ Aside0 (spec_LockOk.l0 kq x3_2 x4_2 a0_0 l0_1 l0_2 = some r) ∧ Aside0 (kq ≤ kj1) ∧ Aside0 (w'.heap[gb129]? = some (.cells #[.int .i64 a0_0,(.slice A0_1 l0_1.length c0_1),(.slice A0_2 l0_2.length c0_2)] 28 (0,0))) ∧ Aside0 (Below w.heap.size w w'))
    case atStart => exact ⟨(0),(0),(by first | rfl | (simp; done) | (simp [*]; done)),(by first | rfl | (simp; done) | (simp [*]; done)),H',⟨Nat.le_refl _⟩,⟨by (with_reducible repeat (first | refine blk_drewN ?_ _ | refine blk_drew ?_ | refine blk_alloc ?_ _)); first | exact BK129.out | (simp only [*]; exact BK129.out)⟩,⟨by repeat (first | (with_reducible first | exact HB.out | apply below_alloc | apply pw_below_drewN | apply below_drew1 | refine below_set ?_ GE129.out) | exact HB.out)⟩⟩
    case round =>
     clear H'
     try clear c1
     try clear p2
     try clear c5
     try clear c9
     try clear hcz7_0
     try clear hcz7_1
     try clear hcz7_2
     try clear hcz8_0
     try clear hcz8_1
     try clear hcz8_2
     try clear hfz7_0
     try clear hfz7_1
     try clear hfz7_2
     try clear hfz8_0
     try clear hfz8_1
     try clear hfz8_2
     try clear p2
     obtain ⟨x3_2,x4_2,rfl,rfl,HA,HK2,BK129,HB⟩ := hrel
     cases gk with
     | zero => exact absurd HA.out (by simp [spec_LockOk.l0])
     | succ k2 =>
      have H := HA.out
      clear HA
      simp only [spec_LockOk.l0] at H
      by_cases c10 : x4_2 < (l0_1.length : Int)
      ·rw [if_pos c10] at H
       have c10b0 : decide (x4_2 < (l0_1.length : Int)) = true := decide_eq_true c10
       clear c10
       by_cases c11 : 0 ≤ x4_2
       ·rw [if_pos c11] at H
        have c11b0 : decide (0 ≤ x4_2) = true := decide_eq_true c11
        clear c11
        have HC12 := Aside0.mk H
        clear H
        have hcz13_0 : wr.cell? ⟨gb129,0,none⟩ = some (.int .i64 a0_0) := (blk_cell BK129.out 0).trans rfl
        have hcz13_1 : wr.cell? ⟨gb129,1,none⟩ = some (.slice A0_1 l0_1.length c0_1) := (blk_cell BK129.out 1).trans rfl
        have hcz13_2 : wr.cell? ⟨gb129,2,none⟩ = some (.slice A0_2 l0_2.length c0_2) := (blk_cell BK129.out 2).trans rfl
        have hfz13_0 := blk_frozen BK129.out 0
        have hfz13_1 := blk_frozen BK129.out 1
        have hfz13_2 := blk_frozen BK129.out 2
        have p132 : 0 ≤ (x4_2 : Int) := of_decide_eq_true (by first | (with_reducible assumption) | assumption)
        have q132 : x4_2 < (l0_1.length : Int) := of_decide_eq_true (by first | (with_reducible assumption) | assumption)
        obtain ⟨ad132,e132,hx132_0,hx132_1,hx132_2,hx132_3⟩ := at_T60 HR0_1.out x4_2 p132 q132
        cases e132
        replace hx132_0 := (HB.out.cell (World.block_lt_of_cell? w _ hx132_0)).trans hx132_0
        replace hx132_1 := (HB.out.cell (World.block_lt_of_cell? w _ hx132_1)).trans hx132_1
        replace hx132_2 := (HB.out.cell (World.block_lt_of_cell? w _ hx132_2)).trans hx132_2
        replace hx132_3 := (HB.out.cell (World.block_lt_of_cell? w _ hx132_3)).trans hx132_3
        replace p132 := eq_true p132
        replace q132 := eq_true q132
        go_upto_region 8 with (first | ((with_reducible refine gate_dst (N := 5) rfl ?_); (try (refine gate_guard (by rfl) ?_; dsimp only)); refine box_event ?hg (N := 5) ?hd (cs := #[.int .i64 0,.int .i64 0,.int .i64 0,.bool false]) (t := 60) ?hr ?_; (case hd => rfl); (case hg => rfl); (case hr => first | (go_simp; done) | (go_simp; rfl)); intro gb133 hg w14 hbox hb; have n0_ := Aside0.mk (blk_below (g := gb129) (o := .cells #[.int .i64 a0_0,.slice (some ad132) l0_1.length c0_1,.slice A0_2 l0_2.length c0_2] 28 (0,0)) (by (with_reducible repeat (first | refine blk_drewN ?_ _ | refine blk_drew ?_ | refine blk_alloc ?_ _)); exact BK129.out) hb); have n1_ := Aside0.mk (below_step (by repeat (first | (with_reducible first | exact HB.out | apply below_alloc | apply pw_below_drewN | apply below_drew1 | refine below_set ?_ GE129.out) | exact HB.out)) hb); have n2_ := Aside0.mk (hbox); have n3_ := Aside0.mk ((by rw [hg]; exact (below_size (by repeat (first | (with_reducible first | exact HB.out | apply below_alloc | apply pw_below_drewN | apply below_drew1 | refine below_set ?_ GE129.out) | exact HB.out))) : w.heap.size ≤ gb133)); have n4_ := Aside0.mk ((by rw [hg]; exact (below_size (by repeat (first | (with_reducible first | exact HB.out | apply below_alloc | apply pw_below_drewN | apply below_drew1 | refine below_set ?_ GE129.out) | exact HB.out))) : w.heap.size ≤ gb133)); have n5_ := Aside0.mk ((by rw [hg]; exact Nat.ne_of_lt (blk_lt (g := gb129) (o := .cells #[.int .i64 a0_0,.slice (some ad132) l0_1.length c0_1,.slice A0_2 l0_2.length c0_2] 28 (0,0)) (by (with_reducible repeat (first | refine blk_drewN ?_ _ | refine blk_drew ?_ | refine blk_alloc ?_ _)); exact BK129.out)) : gb129 ≠ gb133)); have n6_ := Aside0.mk ((by rw [hg]; exact Nat.ne_of_gt (blk_lt (g := gb129) (o := .cells #[.int .i64 a0_0,.slice (some ad132) l0_1.length c0_1,.slice A0_2 l0_2.length c0_2] 28 (0,0)) (by (with_reducible repeat (first | refine blk_drewN ?_ _ | refine blk_drew ?_ | refine blk_alloc ?_ _)); exact BK129.out)) : gb133 ≠ gb129)); clear BK129; clear HB; have BK129 := n0_; have HB := n1_; have BK133 := n2_; have GW133 := n3_; have GE133 := n4_; have NB129_133 := n5_; have NB133_129 := n6_; clear n0_ n1_ n2_ n3_ n4_ n5_ n6_; clear hb hbox hg; have hnb15 := NB133_129.out; have hnc15 := NB129_133.out; have hcz16_0 : w14.cell? ⟨gb133,0,none⟩ = some (.int .i64 0) := (blk_cell BK133.out 0).trans rfl; have hcz16_1 : w14.cell? ⟨gb133,1,none⟩ = some (.int .i64 0) := (blk_cell BK133.out 1).trans rfl; have hcz16_2 : w14.cell? ⟨gb133,2,none⟩ = some (.int .i64 0) := (blk_cell BK133.out 2).trans rfl; have hcz16_3 : w14.cell? ⟨gb133,3,none⟩ = some (.bool false) := (blk_cell BK133.out 3).trans rfl; have hfz16_0 := blk_frozen BK133.out 0; have hfz16_1 := blk_frozen BK133.out 1; have hfz16_2 := blk_frozen BK133.out 2; have hfz16_3 := blk_frozen BK133.out 3))
        repeat (go_quiet (first | ((with_reducible refine gate_dst (N := 5) rfl ?_); (try (refine gate_guard (by rfl) ?_; dsimp only)); refine box_event ?hg (N := 5) ?hd (cs := #[.int .i64 0,.int .i64 0,.int .i64 0,.bool false]) (t := 60) ?hr ?_; (case hd => rfl); (case hg => rfl); (case hr => first | (go_simp; done) | (go_simp; rfl)); intro gb133 hg w14 hbox hb; have n0_ := Aside0.mk (blk_below (g := gb129) (o := .cells #[.int .i64 a0_0,.slice (some ad132) l0_1.length c0_1,.slice A0_2 l0_2.length c0_2] 28 (0,0)) (by (with_reducible repeat (first | refine blk_drewN ?_ _ | refine blk_drew ?_ | refine blk_alloc ?_ _)); exact BK129.out) hb); have n1_ := Aside0.mk (below_step (by repeat (first | (with_reducible first | exact HB.out | apply below_alloc | apply pw_below_drewN | apply below_drew1 | refine below_set ?_ GE129.out) | exact HB.out)) hb); have n2_ := Aside0.mk (hbox); have n3_ := Aside0.mk ((by rw [hg]; exact (below_size (by repeat (first | (with_reducible first | exact HB.out | apply below_alloc | apply pw_below_drewN | apply below_drew1 | refine below_set ?_ GE129.out) | exact HB.out))) : w.heap.size ≤ gb133)); have n4_ := Aside0.mk ((by rw [hg]; exact (below_size (by repeat (first | (with_reducible first | exact HB.out | apply below_alloc | apply pw_below_drewN | apply below_drew1 | refine below_set ?_ GE129.out) | exact HB.out))) : w.heap.size ≤ gb133)); have n5_ := Aside0.mk ((by rw [hg]; exact Nat.ne_of_lt (blk_lt (g := gb129) (o := .cells #[.int .i64 a0_0,.slice (some ad132) l0_1.length c0_1,.slice A0_2 l0_2.length c0_2] 28 (0,0)) (by (with_reducible repeat (first | refine blk_drewN ?_ _ | refine blk_drew ?_ | refine blk_alloc ?_ _)); exact BK129.out)) : gb129 ≠ gb133)); have n6_ := Aside0.mk ((by rw [hg]; exact Nat.ne_of_gt (blk_lt (g := gb129) (o := .cells #[.int .i64 a0_0,.slice (some ad132) l0_1.length c0_1,.slice A0_2 l0_2.length c0_2] 28 (0,0)) (by (with_reducible repeat (first | refine blk_drewN ?_ _ | refine blk_drew ?_ | refine blk_alloc ?_ _)); exact BK129.out)) : gb133 ≠ gb129)); clear BK129; clear HB; have BK129 := n0_; have HB := n1_; have BK133 := n2_; have GW133 := n3_; have GE133 := n4_; have NB129_133 := n5_; have NB133_129 := n6_; clear n0_ n1_ n2_ n3_ n4_ n5_ n6_; clear hb hbox hg; have hnb15 := NB133_129.out; have hnc15 := NB129_133.out; have hcz16_0 : w14.cell? ⟨gb133,0,none⟩ = some (.int .i64 0) := (blk_cell BK133.out 0).trans rfl; have hcz16_1 : w14.cell? ⟨gb133,1,none⟩ = some (.int .i64 0) := (blk_cell BK133.out 1).trans rfl; have hcz16_2 : w14.cell? ⟨gb133,2,none⟩ = some (.int .i64 0) := (blk_cell BK133.out 2).trans rfl; have hcz16_3 : w14.cell? ⟨gb133,3,none⟩ = some (.bool false) := (blk_cell BK133.out 3).trans rfl; have hfz16_0 := blk_frozen BK133.out 0; have hfz16_1 := blk_frozen BK133.out 1; have hfz16_2 := blk_frozen BK133.out 2; have hfz16_3 := blk_frozen BK133.out 3)); go_upto_region 8 with (first | ((with_reducible refine gate_dst (N := 5) rfl ?_); (try (refine gate_guard (by rfl) ?_; dsimp only)); refine box_event ?hg (N := 5) ?hd (cs := #[.int .i64 0,.int .i64 0,.int .i64 0,.bool false]) (t := 60) ?hr ?_; (case hd => rfl); (case hg => rfl); (case hr => first | (go_simp; done) | (go_simp; rfl)); intro gb133 hg w14 hbox hb; have n0_ := Aside0.mk (blk_below (g := gb129) (o := .cells #[.int .i64 a0_0,.slice (some ad132) l0_1.length c0_1,.slice A0_2 l0_2.length c0_2] 28 (0,0)) (by (with_reducible repeat (first | refine blk_drewN ?_ _ | refine blk_drew ?_ | refine blk_alloc ?_ _)); exact BK129.out) hb); have n1_ := Aside0.mk (below_step (by repeat (first | (with_reducible first | exact HB.out | apply below_alloc | apply pw_below_drewN | apply below_drew1 | refine below_set ?_ GE129.out) | exact HB.out)) hb); have n2_ := Aside0.mk (hbox); have n3_ := Aside0.mk ((by rw [hg]; exact (below_size (by repeat (first | (with_reducible first | exact HB.out | apply below_alloc | apply pw_below_drewN | apply below_drew1 | refine below_set ?_ GE129.out) | exact HB.out))) : w.heap.size ≤ gb133)); have n4_ := Aside0.mk ((by rw [hg]; exact (below_size (by repeat (first | (with_reducible first | exact HB.out | apply below_alloc | apply pw_below_drewN | apply below_drew1 | refine below_set ?_ GE129.out) | exact HB.out))) : w.heap.size ≤ gb133)); have n5_ := Aside0.mk ((by rw [hg]; exact Nat.ne_of_lt (blk_lt (g := gb129) (o := .cells #[.int .i64 a0_0,.slice (some ad132) l0_1.length c0_1,.slice A0_2 l0_2.length c0_2] 28 (0,0)) (by (with_reducible repeat (first | refine blk_drewN ?_ _ | refine blk_drew ?_ | refine blk_alloc ?_ _)); exact BK129.out)) : gb129 ≠ gb133)); have n6_ := Aside0.mk ((by rw [hg]; exact Nat.ne_of_gt (blk_lt (g := gb129) (o := .cells #[.int .i64 a0_0,.slice (some ad132) l0_1.length c0_1,.slice A0_2 l0_2.length c0_2] 28 (0,0)) (by (with_reducible repeat (first | refine blk_drewN ?_ _ | refine blk_drew ?_ | refine blk_alloc ?_ _)); exact BK129.out)) : gb133 ≠ gb129)); clear BK129; clear HB; have BK129 := n0_; have HB := n1_; have BK133 := n2_; have GW133 := n3_; have GE133 := n4_; have NB129_133 := n5_; have NB133_129 := n6_; clear n0_ n1_ n2_ n3_ n4_ n5_ n6_; clear hb hbox hg; have hnb15 := NB133_129.out; have hnc15 := NB129_133.out; have hcz16_0 : w14.cell? ⟨gb133,0,none⟩ = some (.int .i64 0) := (blk_cell BK133.out 0).trans rfl; have hcz16_1 : w14.cell? ⟨gb133,1,none⟩ = some (.int .i64 0) := (blk_cell BK133.out 1).trans rfl; have hcz16_2 : w14.cell? ⟨gb133,2,none⟩ = some (.int .i64 0) := (blk_cell BK133.out 2).trans rfl; have hcz16_3 : w14.cell? ⟨gb133,3,none⟩ = some (.bool false) := (blk_cell BK133.out 3).trans rfl; have hfz16_0 := blk_frozen BK133.out 0; have hfz16_1 := blk_frozen BK133.out 1; have hfz16_2 := blk_frozen BK133.out 2; have hfz16_3 := blk_frozen BK133.out 3)))
        (try simp only [Act.put,List.setIfInBounds_toArray,List.set_cons_zero,List.set_cons_succ])
        go_cut [82] (fun v82 wc => ∃ (kq : Nat) (x82_11 : Bool),v82 = .bool x82_11 ∧ Aside0 (spec_LockOk.j2 kq x3_2 x4_2 x82_11 a0_0 l0_1 l0_2 ((rd_T60 l0_1 x4_2).f0) ((rd_T60 l0_1 x4_2).f1) ((rd_T60 l0_1 x4_2).f2) ((rd_T60 l0_1 x4_2).f3) = some r) ∧ Aside0 (kq ≤ k2) ∧ Aside0 (wc.heap[gb129]? = some (.cells #[.int .i64 a0_0,(.slice (some ad132) l0_1.length c0_1),(.slice A0_2 l0_2.length c0_2)] 28 (0,0))) ∧ Aside0 (wc.heap[gb133]? = some (.cells #[.int .i64 ((rd_T60 l0_1 x4_2).f0),.int .i64 ((rd_T60 l0_1 x4_2).f1),.int .i64 ((rd_T60 l0_1 x4_2).f2),.bool ((rd_T60 l0_1 x4_2).f3)] 60 (0,0))) ∧ Aside0 (Below w.heap.size w wc))
        case first =>
         have H := HC12.out
         clear HC12
         replace H := Option.bind_eq_some_iff.mp H
         obtain ⟨t134,A170,H⟩ := H
         replace H : (if t134 = true then ((spec_l6In.f ((rd_T60 l0_1 x4_2).f1) 0 2).bind fun t135 => (if t135 = true then (if ((rd_T60 l0_1 x4_2).f0) = 1 then ((spec_l6In.f ((rd_T60 l0_1 x4_2).f2) 0 3).bind fun t136 => (if t136 = true then (if ((rd_T60 l0_1 x4_2).f0) > 0 then (if ((rd_T60 l0_1 x4_2).f2) = 0 then (spec_LockOk.j2 k2 x3_2 x4_2 true a0_0 l0_1 l0_2 ((rd_T60 l0_1 x4_2).f0) ((rd_T60 l0_1 x4_2).f1) ((rd_T60 l0_1 x4_2).f2) ((rd_T60 l0_1 x4_2).f3)) else (if (rd_T60 l0_1 x4_2).f3 = true then (if ((rd_T60 l0_1 x4_2).f0) = 3 then ((spec_l5In.f k2 l0_2 x4_2).bind fun t137 => (spec_LockOk.j2 k2 x3_2 x4_2 (((rd_T60 l0_1 x4_2).f3) != t137) a0_0 l0_1 l0_2 ((rd_T60 l0_1 x4_2).f0) ((rd_T60 l0_1 x4_2).f1) ((rd_T60 l0_1 x4_2).f2) ((rd_T60 l0_1 x4_2).f3))) else (spec_LockOk.j2 k2 x3_2 x4_2 true a0_0 l0_1 l0_2 ((rd_T60 l0_1 x4_2).f0) ((rd_T60 l0_1 x4_2).f1) ((rd_T60 l0_1 x4_2).f2) ((rd_T60 l0_1 x4_2).f3))) else ((spec_l5In.f k2 l0_2 x4_2).bind fun t138 => (spec_LockOk.j2 k2 x3_2 x4_2 (((rd_T60 l0_1 x4_2).f3) != t138) a0_0 l0_1 l0_2 ((rd_T60 l0_1 x4_2).f0) ((rd_T60 l0_1 x4_2).f1) ((rd_T60 l0_1 x4_2).f2) ((rd_T60 l0_1 x4_2).f3))))) else (if (rd_T60 l0_1 x4_2).f3 = true then (if ((rd_T60 l0_1 x4_2).f0) = 3 then ((spec_l5In.f k2 l0_2 x4_2).bind fun t139 => (spec_LockOk.j2 k2 x3_2 x4_2 (((rd_T60 l0_1 x4_2).f3) != t139) a0_0 l0_1 l0_2 ((rd_T60 l0_1 x4_2).f0) ((rd_T60 l0_1 x4_2).f1) ((rd_T60 l0_1 x4_2).f2) ((rd_T60 l0_1 x4_2).f3))) else (spec_LockOk.j2 k2 x3_2 x4_2 true a0_0 l0_1 l0_2 ((rd_T60 l0_1 x4_2).f0) ((rd_T60 l0_1 x4_2).f1) ((rd_T60 l0_1 x4_2).f2) ((rd_T60 l0_1 x4_2).f3))) else ((spec_l5In.f k2 l0_2 x4_2).bind fun t140 => (spec_LockOk.j2 k2 x3_2 x4_2 (((rd_T60 l0_1 x4_2).f3) != t140) a0_0 l0_1 l0_2 ((rd_T60 l0_1 x4_2).f0) ((rd_T60 l0_1 x4_2).f1) ((rd_T60 l0_1 x4_2).f2) ((rd_T60 l0_1 x4_2).f3))))) else (spec_LockOk.j2 k2 x3_2 x4_2 true a0_0 l0_1 l0_2 ((rd_T60 l0_1 x4_2).f0) ((rd_T60 l0_1 x4_2).f1) ((rd_T60 l0_1 x4_2).f2) ((rd_T60 l0_1 x4_2).f3)))) else (if ((rd_T60 l0_1 x4_2).f1) = 0 then ((spec_l6In.f ((rd_T60 l0_1 x4_2).f2) 0 3).bind fun t141 => (if t141 = true then (if ((rd_T60 l0_1 x4_2).f0) > 0 then (if ((rd_T60 l0_1 x4_2).f2) = 0 then (spec_LockOk.j2 k2 x3_2 x4_2 true a0_0 l0_1 l0_2 ((rd_T60 l0_1 x4_2).f0) ((rd_T60 l0_1 x4_2).f1) ((rd_T60 l0_1 x4_2).f2) ((rd_T60 l0_1 x4_2).f3)) else (if (rd_T60 l0_1 x4_2).f3 = true then (if ((rd_T60 l0_1 x4_2).f0) = 3 then ((spec_l5In.f k2 l0_2 x4_2).bind fun t142 => (spec_LockOk.j2 k2 x3_2 x4_2 (((rd_T60 l0_1 x4_2).f3) != t142) a0_0 l0_1 l0_2 ((rd_T60 l0_1 x4_2).f0) ((rd_T60 l0_1 x4_2).f1) ((rd_T60 l0_1 x4_2).f2) ((rd_T60 l0_1 x4_2).f3))) else (spec_LockOk.j2 k2 x3_2 x4_2 true a0_0 l0_1 l0_2 ((rd_T60 l0_1 x4_2).f0) ((rd_T60 l0_1 x4_2).f1) ((rd_T60 l0_1 x4_2).f2) ((rd_T60 l0_1 x4_2).f3))) else ((spec_l5In.f k2 l0_2 x4_2).bind fun t143 => (spec_LockOk.j2 k2 x3_2 x4_2 (((rd_T60 l0_1 x4_2).f3) != t143) a0_0 l0_1 l0_2 ((rd_T60 l0_1 x4_2).f0) ((rd_T60 l0_1 x4_2).f1) ((rd_T60 l0_1 x4_2).f2) ((rd_T60 l0_1 x4_2).f3))))) else (if (rd_T60 l0_1 x4_2).f3 = true then (if ((rd_T60 l0_1 x4_2).f0) = 3 then ((spec_l5In.f k2 l0_2 x4_2).bind fun t144 => (spec_LockOk.j2 k2 x3_2 x4_2 (((rd_T60 l0_1 x4_2).f3) != t144) a0_0 l0_1 l0_2 ((rd_T60 l0_1 x4_2).f0) ((rd_T60 l0_1 x4_2).f1) ((rd_T60 l0_1 x4_2).f2) ((rd_T60 l0_1 x4_2).f3))) else (spec_LockOk.j2 k2 x3_2 x4_2 true a0_0 l0_1 l0_2 ((rd_T60 l0_1 x4_2).f0) ((rd_T60 l0_1 x4_2).f1) ((rd_T60 l0_1 x4_2).f2) ((rd_T60 l0_1 x4_2).f3))) else ((spec_l5In.f k2 l0_2 x4_2).bind fun t145 => (spec_LockOk.j2 k2 x3_2 x4_2 (((rd_T60 l0_1 x4_2).f3) != t145) a0_0 l0_1 l0_2 ((rd_T60 l0_1 x4_2).f0) ((rd_T60 l0_1 x4_2).f1) ((rd_T60 l0_1 x4_2).f2) ((rd_T60 l0_1 x4_2).f3))))) else (spec_LockOk.j2 k2 x3_2 x4_2 true a0_0 l0_1 l0_2 ((rd_T60 l0_1 x4_2).f0) ((rd_T60 l0_1 x4_2).f1) ((rd_T60 l0_1 x4_2).f2) ((rd_T60 l0_1 x4_2).f3)))) else (spec_LockOk.j2 k2 x3_2 x4_2 true a0_0 l0_1 l0_2 ((rd_T60 l0_1 x4_2).f0) ((rd_T60 l0_1 x4_2).f1) ((rd_T60 l0_1 x4_2).f2) ((rd_T60 l0_1 x4_2).f3)))) else (spec_LockOk.j2 k2 x3_2 x4_2 true a0_0 l0_1 l0_2 ((rd_T60 l0_1 x4_2).f0) ((rd_T60 l0_1 x4_2).f1) ((rd_T60 l0_1 x4_2).f2) ((rd_T60 l0_1 x4_2).f3)))) else (spec_LockOk.j2 k2 x3_2 x4_2 true a0_0 l0_1 l0_2 ((rd_T60 l0_1 x4_2).f0) ((rd_T60 l0_1 x4_2).f1) ((rd_T60 l0_1 x4_2).f2) ((rd_T60 l0_1 x4_2).f3))) = some r := H
         have A17 := Aside0.mk A170
         clear A170
         by_cases c18 : t134 = true
         ·subst c18
          have H1 : ((spec_l6In.f ((rd_T60 l0_1 x4_2).f1) 0 2).bind fun t135 => (if t135 = true then (if ((rd_T60 l0_1 x4_2).f0) = 1 then ((spec_l6In.f ((rd_T60 l0_1 x4_2).f2) 0 3).bind fun t136 => (if t136 = true then (if ((rd_T60 l0_1 x4_2).f0) > 0 then (if ((rd_T60 l0_1 x4_2).f2) = 0 then (spec_LockOk.j2 k2 x3_2 x4_2 true a0_0 l0_1 l0_2 ((rd_T60 l0_1 x4_2).f0) ((rd_T60 l0_1 x4_2).f1) ((rd_T60 l0_1 x4_2).f2) ((rd_T60 l0_1 x4_2).f3)) else (if (rd_T60 l0_1 x4_2).f3 = true then (if ((rd_T60 l0_1 x4_2).f0) = 3 then ((spec_l5In.f k2 l0_2 x4_2).bind fun t137 => (spec_LockOk.j2 k2 x3_2 x4_2 (((rd_T60 l0_1 x4_2).f3) != t137) a0_0 l0_1 l0_2 ((rd_T60 l0_1 x4_2).f0) ((rd_T60 l0_1 x4_2).f1) ((rd_T60 l0_1 x4_2).f2) ((rd_T60 l0_1 x4_2).f3))) else (spec_LockOk.j2 k2 x3_2 x4_2 true a0_0 l0_1 l0_2 ((rd_T60 l0_1 x4_2).f0) ((rd_T60 l0_1 x4_2).f1) ((rd_T60 l0_1 x4_2).f2) ((rd_T60 l0_1 x4_2).f3))) else ((spec_l5In.f k2 l0_2 x4_2).bind fun t138 => (spec_LockOk.j2 k2 x3_2 x4_2 (((rd_T60 l0_1 x4_2).f3) != t138) a0_0 l0_1 l0_2 ((rd_T60 l0_1 x4_2).f0) ((rd_T60 l0_1 x4_2).f1) ((rd_T60 l0_1 x4_2).f2) ((rd_T60 l0_1 x4_2).f3))))) else (if (rd_T60 l0_1 x4_2).f3 = true then (if ((rd_T60 l0_1 x4_2).f0) = 3 then ((spec_l5In.f k2 l0_2 x4_2).bind fun t139 => (spec_LockOk.j2 k2 x3_2 x4_2 (((rd_T60 l0_1 x4_2).f3) != t139) a0_0 l0_1 l0_2 ((rd_T60 l0_1 x4_2).f0) ((rd_T60 l0_1 x4_2).f1) ((rd_T60 l0_1 x4_2).f2) ((rd_T60 l0_1 x4_2).f3))) else (spec_LockOk.j2 k2 x3_2 x4_2 true a0_0 l0_1 l0_2 ((rd_T60 l0_1 x4_2).f0) ((rd_T60 l0_1 x4_2).f1) ((rd_T60 l0_1 x4_2).f2) ((rd_T60 l0_1 x4_2).f3))) else ((spec_l5In.f k2 l0_2 x4_2).bind fun t140 => (spec_LockOk.j2 k2 x3_2 x4_2 (((rd_T60 l0_1 x4_2).f3) != t140) a0_0 l0_1 l0_2 ((rd_T60 l0_1 x4_2).f0) ((rd_T60 l0_1 x4_2).f1) ((rd_T60 l0_1 x4_2).f2) ((rd_T60 l0_1 x4_2).f3))))) else (spec_LockOk.j2 k2 x3_2 x4_2 true a0_0 l0_1 l0_2 ((rd_T60 l0_1 x4_2).f0) ((rd_T60 l0_1 x4_2).f1) ((rd_T60 l0_1 x4_2).f2) ((rd_T60 l0_1 x4_2).f3)))) else (if ((rd_T60 l0_1 x4_2).f1) = 0 then ((spec_l6In.f ((rd_T60 l0_1 x4_2).f2) 0 3).bind fun t141 => (if t141 = true then (if ((rd_T60 l0_1 x4_2).f0) > 0 then (if ((rd_T60 l0_1 x4_2).f2) = 0 then (spec_LockOk.j2 k2 x3_2 x4_2 true a0_0 l0_1 l0_2 ((rd_T60 l0_1 x4_2).f0) ((rd_T60 l0_1 x4_2).f1) ((rd_T60 l0_1 x4_2).f2) ((rd_T60 l0_1 x4_2).f3)) else (if (rd_T60 l0_1 x4_2).f3 = true then (if ((rd_T60 l0_1 x4_2).f0) = 3 then ((spec_l5In.f k2 l0_2 x4_2).bind fun t142 => (spec_LockOk.j2 k2 x3_2 x4_2 (((rd_T60 l0_1 x4_2).f3) != t142) a0_0 l0_1 l0_2 ((rd_T60 l0_1 x4_2).f0) ((rd_T60 l0_1 x4_2).f1) ((rd_T60 l0_1 x4_2).f2) ((rd_T60 l0_1 x4_2).f3))) else (spec_LockOk.j2 k2 x3_2 x4_2 true a0_0 l0_1 l0_2 ((rd_T60 l0_1 x4_2).f0) ((rd_T60 l0_1 x4_2).f1) ((rd_T60 l0_1 x4_2).f2) ((rd_T60 l0_1 x4_2).f3))) else ((spec_l5In.f k2 l0_2 x4_2).bind fun t143 => (spec_LockOk.j2 k2 x3_2 x4_2 (((rd_T60 l0_1 x4_2).f3) != t143) a0_0 l0_1 l0_2 ((rd_T60 l0_1 x4_2).f0) ((rd_T60 l0_1 x4_2).f1) ((rd_T60 l0_1 x4_2).f2) ((rd_T60 l0_1 x4_2).f3))))) else (if (rd_T60 l0_1 x4_2).f3 = true then (if ((rd_T60 l0_1 x4_2).f0) = 3 then ((spec_l5In.f k2 l0_2 x4_2).bind fun t144 => (spec_LockOk.j2 k2 x3_2 x4_2 (((rd_T60 l0_1 x4_2).f3) != t144) a0_0 l0_1 l0_2 ((rd_T60 l0_1 x4_2).f0) ((rd_T60 l0_1 x4_2).f1) ((rd_T60 l0_1 x4_2).f2) ((rd_T60 l0_1 x4_2).f3))) else (spec_LockOk.j2 k2 x3_2 x4_2 true a0_0 l0_1 l0_2 ((rd_T60 l0_1 x4_2).f0) ((rd_T60 l0_1 x4_2).f1) ((rd_T60 l0_1 x4_2).f2) ((rd_T60 l0_1 x4_2).f3))) else ((spec_l5In.f k2 l0_2 x4_2).bind fun t145 => (spec_LockOk.j2 k2 x3_2 x4_2 (((rd_T60 l0_1 x4_2).f3) != t145) a0_0 l0_1 l0_2 ((rd_T60 l0_1 x4_2).f0) ((rd_T60 l0_1 x4_2).f1) ((rd_T60 l0_1 x4_2).f2) ((rd_T60 l0_1 x4_2).f3))))) else (spec_LockOk.j2 k2 x3_2 x4_2 true a0_0 l0_1 l0_2 ((rd_T60 l0_1 x4_2).f0) ((rd_T60 l0_1 x4_2).f1) ((rd_T60 l0_1 x4_2).f2) ((rd_T60 l0_1 x4_2).f3)))) else (spec_LockOk.j2 k2 x3_2 x4_2 true a0_0 l0_1 l0_2 ((rd_T60 l0_1 x4_2).f0) ((rd_T60 l0_1 x4_2).f1) ((rd_T60 l0_1 x4_2).f2) ((rd_T60 l0_1 x4_2).f3)))) else (spec_LockOk.j2 k2 x3_2 x4_2 true a0_0 l0_1 l0_2 ((rd_T60 l0_1 x4_2).f0) ((rd_T60 l0_1 x4_2).f1) ((rd_T60 l0_1 x4_2).f2) ((rd_T60 l0_1 x4_2).f3)))) = some r := by rw [if_pos rfl] at H; exact H
          clear H
          have H := H1
          clear H1
          replace H := Option.bind_eq_some_iff.mp H
          obtain ⟨t135,A190,H⟩ := H
          replace H : (if t135 = true then (if ((rd_T60 l0_1 x4_2).f0) = 1 then ((spec_l6In.f ((rd_T60 l0_1 x4_2).f2) 0 3).bind fun t136 => (if t136 = true then (if ((rd_T60 l0_1 x4_2).f0) > 0 then (if ((rd_T60 l0_1 x4_2).f2) = 0 then (spec_LockOk.j2 k2 x3_2 x4_2 true a0_0 l0_1 l0_2 ((rd_T60 l0_1 x4_2).f0) ((rd_T60 l0_1 x4_2).f1) ((rd_T60 l0_1 x4_2).f2) ((rd_T60 l0_1 x4_2).f3)) else (if (rd_T60 l0_1 x4_2).f3 = true then (if ((rd_T60 l0_1 x4_2).f0) = 3 then ((spec_l5In.f k2 l0_2 x4_2).bind fun t137 => (spec_LockOk.j2 k2 x3_2 x4_2 (((rd_T60 l0_1 x4_2).f3) != t137) a0_0 l0_1 l0_2 ((rd_T60 l0_1 x4_2).f0) ((rd_T60 l0_1 x4_2).f1) ((rd_T60 l0_1 x4_2).f2) ((rd_T60 l0_1 x4_2).f3))) else (spec_LockOk.j2 k2 x3_2 x4_2 true a0_0 l0_1 l0_2 ((rd_T60 l0_1 x4_2).f0) ((rd_T60 l0_1 x4_2).f1) ((rd_T60 l0_1 x4_2).f2) ((rd_T60 l0_1 x4_2).f3))) else ((spec_l5In.f k2 l0_2 x4_2).bind fun t138 => (spec_LockOk.j2 k2 x3_2 x4_2 (((rd_T60 l0_1 x4_2).f3) != t138) a0_0 l0_1 l0_2 ((rd_T60 l0_1 x4_2).f0) ((rd_T60 l0_1 x4_2).f1) ((rd_T60 l0_1 x4_2).f2) ((rd_T60 l0_1 x4_2).f3))))) else (if (rd_T60 l0_1 x4_2).f3 = true then (if ((rd_T60 l0_1 x4_2).f0) = 3 then ((spec_l5In.f k2 l0_2 x4_2).bind fun t139 => (spec_LockOk.j2 k2 x3_2 x4_2 (((rd_T60 l0_1 x4_2).f3) != t139) a0_0 l0_1 l0_2 ((rd_T60 l0_1 x4_2).f0) ((rd_T60 l0_1 x4_2).f1) ((rd_T60 l0_1 x4_2).f2) ((rd_T60 l0_1 x4_2).f3))) else (spec_LockOk.j2 k2 x3_2 x4_2 true a0_0 l0_1 l0_2 ((rd_T60 l0_1 x4_2).f0) ((rd_T60 l0_1 x4_2).f1) ((rd_T60 l0_1 x4_2).f2) ((rd_T60 l0_1 x4_2).f3))) else ((spec_l5In.f k2 l0_2 x4_2).bind fun t140 => (spec_LockOk.j2 k2 x3_2 x4_2 (((rd_T60 l0_1 x4_2).f3) != t140) a0_0 l0_1 l0_2 ((rd_T60 l0_1 x4_2).f0) ((rd_T60 l0_1 x4_2).f1) ((rd_T60 l0_1 x4_2).f2) ((rd_T60 l0_1 x4_2).f3))))) else (spec_LockOk.j2 k2 x3_2 x4_2 true a0_0 l0_1 l0_2 ((rd_T60 l0_1 x4_2).f0) ((rd_T60 l0_1 x4_2).f1) ((rd_T60 l0_1 x4_2).f2) ((rd_T60 l0_1 x4_2).f3)))) else (if ((rd_T60 l0_1 x4_2).f1) = 0 then ((spec_l6In.f ((rd_T60 l0_1 x4_2).f2) 0 3).bind fun t141 => (if t141 = true then (if ((rd_T60 l0_1 x4_2).f0) > 0 then (if ((rd_T60 l0_1 x4_2).f2) = 0 then (spec_LockOk.j2 k2 x3_2 x4_2 true a0_0 l0_1 l0_2 ((rd_T60 l0_1 x4_2).f0) ((rd_T60 l0_1 x4_2).f1) ((rd_T60 l0_1 x4_2).f2) ((rd_T60 l0_1 x4_2).f3)) else (if (rd_T60 l0_1 x4_2).f3 = true then (if ((rd_T60 l0_1 x4_2).f0) = 3 then ((spec_l5In.f k2 l0_2 x4_2).bind fun t142 => (spec_LockOk.j2 k2 x3_2 x4_2 (((rd_T60 l0_1 x4_2).f3) != t142) a0_0 l0_1 l0_2 ((rd_T60 l0_1 x4_2).f0) ((rd_T60 l0_1 x4_2).f1) ((rd_T60 l0_1 x4_2).f2) ((rd_T60 l0_1 x4_2).f3))) else (spec_LockOk.j2 k2 x3_2 x4_2 true a0_0 l0_1 l0_2 ((rd_T60 l0_1 x4_2).f0) ((rd_T60 l0_1 x4_2).f1) ((rd_T60 l0_1 x4_2).f2) ((rd_T60 l0_1 x4_2).f3))) else ((spec_l5In.f k2 l0_2 x4_2).bind fun t143 => (spec_LockOk.j2 k2 x3_2 x4_2 (((rd_T60 l0_1 x4_2).f3) != t143) a0_0 l0_1 l0_2 ((rd_T60 l0_1 x4_2).f0) ((rd_T60 l0_1 x4_2).f1) ((rd_T60 l0_1 x4_2).f2) ((rd_T60 l0_1 x4_2).f3))))) else (if (rd_T60 l0_1 x4_2).f3 = true then (if ((rd_T60 l0_1 x4_2).f0) = 3 then ((spec_l5In.f k2 l0_2 x4_2).bind fun t144 => (spec_LockOk.j2 k2 x3_2 x4_2 (((rd_T60 l0_1 x4_2).f3) != t144) a0_0 l0_1 l0_2 ((rd_T60 l0_1 x4_2).f0) ((rd_T60 l0_1 x4_2).f1) ((rd_T60 l0_1 x4_2).f2) ((rd_T60 l0_1 x4_2).f3))) else (spec_LockOk.j2 k2 x3_2 x4_2 true a0_0 l0_1 l0_2 ((rd_T60 l0_1 x4_2).f0) ((rd_T60 l0_1 x4_2).f1) ((rd_T60 l0_1 x4_2).f2) ((rd_T60 l0_1 x4_2).f3))) else ((spec_l5In.f k2 l0_2 x4_2).bind fun t145 => (spec_LockOk.j2 k2 x3_2 x4_2 (((rd_T60 l0_1 x4_2).f3) != t145) a0_0 l0_1 l0_2 ((rd_T60 l0_1 x4_2).f0) ((rd_T60 l0_1 x4_2).f1) ((rd_T60 l0_1 x4_2).f2) ((rd_T60 l0_1 x4_2).f3))))) else (spec_LockOk.j2 k2 x3_2 x4_2 true a0_0 l0_1 l0_2 ((rd_T60 l0_1 x4_2).f0) ((rd_T60 l0_1 x4_2).f1) ((rd_T60 l0_1 x4_2).f2) ((rd_T60 l0_1 x4_2).f3)))) else (spec_LockOk.j2 k2 x3_2 x4_2 true a0_0 l0_1 l0_2 ((rd_T60 l0_1 x4_2).f0) ((rd_T60 l0_1 x4_2).f1) ((rd_T60 l0_1 x4_2).f2) ((rd_T60 l0_1 x4_2).f3)))) else (spec_LockOk.j2 k2 x3_2 x4_2 true a0_0 l0_1 l0_2 ((rd_T60 l0_1 x4_2).f0) ((rd_T60 l0_1 x4_2).f1) ((rd_T60 l0_1 x4_2).f2) ((rd_T60 l0_1 x4_2).f3))) = some r := H
          have A19 := Aside0.mk A190
          clear A190
          by_cases c20 : t135 = true
          ·subst c20
           have H1 : (if ((rd_T60 l0_1 x4_2).f0) = 1 then ((spec_l6In.f ((rd_T60 l0_1 x4_2).f2) 0 3).bind fun t136 => (if t136 = true then (if ((rd_T60 l0_1 x4_2).f0) > 0 then (if ((rd_T60 l0_1 x4_2).f2) = 0 then (spec_LockOk.j2 k2 x3_2 x4_2 true a0_0 l0_1 l0_2 ((rd_T60 l0_1 x4_2).f0) ((rd_T60 l0_1 x4_2).f1) ((rd_T60 l0_1 x4_2).f2) ((rd_T60 l0_1 x4_2).f3)) else (if (rd_T60 l0_1 x4_2).f3 = true then (if ((rd_T60 l0_1 x4_2).f0) = 3 then ((spec_l5In.f k2 l0_2 x4_2).bind fun t137 => (spec_LockOk.j2 k2 x3_2 x4_2 (((rd_T60 l0_1 x4_2).f3) != t137) a0_0 l0_1 l0_2 ((rd_T60 l0_1 x4_2).f0) ((rd_T60 l0_1 x4_2).f1) ((rd_T60 l0_1 x4_2).f2) ((rd_T60 l0_1 x4_2).f3))) else (spec_LockOk.j2 k2 x3_2 x4_2 true a0_0 l0_1 l0_2 ((rd_T60 l0_1 x4_2).f0) ((rd_T60 l0_1 x4_2).f1) ((rd_T60 l0_1 x4_2).f2) ((rd_T60 l0_1 x4_2).f3))) else ((spec_l5In.f k2 l0_2 x4_2).bind fun t138 => (spec_LockOk.j2 k2 x3_2 x4_2 (((rd_T60 l0_1 x4_2).f3) != t138) a0_0 l0_1 l0_2 ((rd_T60 l0_1 x4_2).f0) ((rd_T60 l0_1 x4_2).f1) ((rd_T60 l0_1 x4_2).f2) ((rd_T60 l0_1 x4_2).f3))))) else (if (rd_T60 l0_1 x4_2).f3 = true then (if ((rd_T60 l0_1 x4_2).f0) = 3 then ((spec_l5In.f k2 l0_2 x4_2).bind fun t139 => (spec_LockOk.j2 k2 x3_2 x4_2 (((rd_T60 l0_1 x4_2).f3) != t139) a0_0 l0_1 l0_2 ((rd_T60 l0_1 x4_2).f0) ((rd_T60 l0_1 x4_2).f1) ((rd_T60 l0_1 x4_2).f2) ((rd_T60 l0_1 x4_2).f3))) else (spec_LockOk.j2 k2 x3_2 x4_2 true a0_0 l0_1 l0_2 ((rd_T60 l0_1 x4_2).f0) ((rd_T60 l0_1 x4_2).f1) ((rd_T60 l0_1 x4_2).f2) ((rd_T60 l0_1 x4_2).f3))) else ((spec_l5In.f k2 l0_2 x4_2).bind fun t140 => (spec_LockOk.j2 k2 x3_2 x4_2 (((rd_T60 l0_1 x4_2).f3) != t140) a0_0 l0_1 l0_2 ((rd_T60 l0_1 x4_2).f0) ((rd_T60 l0_1 x4_2).f1) ((rd_T60 l0_1 x4_2).f2) ((rd_T60 l0_1 x4_2).f3))))) else (spec_LockOk.j2 k2 x3_2 x4_2 true a0_0 l0_1 l0_2 ((rd_T60 l0_1 x4_2).f0) ((rd_T60 l0_1 x4_2).f1) ((rd_T60 l0_1 x4_2).f2) ((rd_T60 l0_1 x4_2).f3)))) else (if ((rd_T60 l0_1 x4_2).f1) = 0 then ((spec_l6In.f ((rd_T60 l0_1 x4_2).f2) 0 3).bind fun t141 => (if t141 = true then (if ((rd_T60 l0_1 x4_2).f0) > 0 then (if ((rd_T60 l0_1 x4_2).f2) = 0 then (spec_LockOk.j2 k2 x3_2 x4_2 true a0_0 l0_1 l0_2 ((rd_T60 l0_1 x4_2).f0) ((rd_T60 l0_1 x4_2).f1) ((rd_T60 l0_1 x4_2).f2) ((rd_T60 l0_1 x4_2).f3)) else (if (rd_T60 l0_1 x4_2).f3 = true then (if ((rd_T60 l0_1 x4_2).f0) = 3 then ((spec_l5In.f k2 l0_2 x4_2).bind fun t142 => (spec_LockOk.j2 k2 x3_2 x4_2 (((rd_T60 l0_1 x4_2).f3) != t142) a0_0 l0_1 l0_2 ((rd_T60 l0_1 x4_2).f0) ((rd_T60 l0_1 x4_2).f1) ((rd_T60 l0_1 x4_2).f2) ((rd_T60 l0_1 x4_2).f3))) else (spec_LockOk.j2 k2 x3_2 x4_2 true a0_0 l0_1 l0_2 ((rd_T60 l0_1 x4_2).f0) ((rd_T60 l0_1 x4_2).f1) ((rd_T60 l0_1 x4_2).f2) ((rd_T60 l0_1 x4_2).f3))) else ((spec_l5In.f k2 l0_2 x4_2).bind fun t143 => (spec_LockOk.j2 k2 x3_2 x4_2 (((rd_T60 l0_1 x4_2).f3) != t143) a0_0 l0_1 l0_2 ((rd_T60 l0_1 x4_2).f0) ((rd_T60 l0_1 x4_2).f1) ((rd_T60 l0_1 x4_2).f2) ((rd_T60 l0_1 x4_2).f3))))) else (if (rd_T60 l0_1 x4_2).f3 = true then (if ((rd_T60 l0_1 x4_2).f0) = 3 then ((spec_l5In.f k2 l0_2 x4_2).bind fun t144 => (spec_LockOk.j2 k2 x3_2 x4_2 (((rd_T60 l0_1 x4_2).f3) != t144) a0_0 l0_1 l0_2 ((rd_T60 l0_1 x4_2).f0) ((rd_T60 l0_1 x4_2).f1) ((rd_T60 l0_1 x4_2).f2) ((rd_T60 l0_1 x4_2).f3))) else (spec_LockOk.j2 k2 x3_2 x4_2 true a0_0 l0_1 l0_2 ((rd_T60 l0_1 x4_2).f0) ((rd_T60 l0_1 x4_2).f1) ((rd_T60 l0_1 x4_2).f2) ((rd_T60 l0_1 x4_2).f3))) else ((spec_l5In.f k2 l0_2 x4_2).bind fun t145 => (spec_LockOk.j2 k2 x3_2 x4_2 (((rd_T60 l0_1 x4_2).f3) != t145) a0_0 l0_1 l0_2 ((rd_T60 l0_1 x4_2).f0) ((rd_T60 l0_1 x4_2).f1) ((rd_T60 l0_1 x4_2).f2) ((rd_T60 l0_1 x4_2).f3))))) else (spec_LockOk.j2 k2 x3_2 x4_2 true a0_0 l0_1 l0_2 ((rd_T60 l0_1 x4_2).f0) ((rd_T60 l0_1 x4_2).f1) ((rd_T60 l0_1 x4_2).f2) ((rd_T60 l0_1 x4_2).f3)))) else (spec_LockOk.j2 k2 x3_2 x4_2 true a0_0 l0_1 l0_2 ((rd_T60 l0_1 x4_2).f0) ((rd_T60 l0_1 x4_2).f1) ((rd_T60 l0_1 x4_2).f2) ((rd_T60 l0_1 x4_2).f3)))) = some r := by rw [if_pos rfl] at H; exact H
           clear H
           have H := H1
           clear H1
           by_cases c21 : ((rd_T60 l0_1 x4_2).f0) = 1
           ·rw [if_pos c21] at H
            have c21b0 : (((rd_T60 l0_1 x4_2).f0) == 1) = true := beq_iff_eq.mpr c21
            have c21b1 : (((rd_T60 l0_1 x4_2).f0) != 1) = false := bne_eq_false_iff_eq.mpr c21
            clear c21
            (first | rw [c21b0] | (simp only [i64_w,i32_w]; rw [c21b0]) | skip)
            replace H := Option.bind_eq_some_iff.mp H
            obtain ⟨t136,A220,H⟩ := H
            replace H : (if t136 = true then (if ((rd_T60 l0_1 x4_2).f0) > 0 then (if ((rd_T60 l0_1 x4_2).f2) = 0 then (spec_LockOk.j2 k2 x3_2 x4_2 true a0_0 l0_1 l0_2 ((rd_T60 l0_1 x4_2).f0) ((rd_T60 l0_1 x4_2).f1) ((rd_T60 l0_1 x4_2).f2) ((rd_T60 l0_1 x4_2).f3)) else (if (rd_T60 l0_1 x4_2).f3 = true then (if ((rd_T60 l0_1 x4_2).f0) = 3 then ((spec_l5In.f k2 l0_2 x4_2).bind fun t137 => (spec_LockOk.j2 k2 x3_2 x4_2 (((rd_T60 l0_1 x4_2).f3) != t137) a0_0 l0_1 l0_2 ((rd_T60 l0_1 x4_2).f0) ((rd_T60 l0_1 x4_2).f1) ((rd_T60 l0_1 x4_2).f2) ((rd_T60 l0_1 x4_2).f3))) else (spec_LockOk.j2 k2 x3_2 x4_2 true a0_0 l0_1 l0_2 ((rd_T60 l0_1 x4_2).f0) ((rd_T60 l0_1 x4_2).f1) ((rd_T60 l0_1 x4_2).f2) ((rd_T60 l0_1 x4_2).f3))) else ((spec_l5In.f k2 l0_2 x4_2).bind fun t138 => (spec_LockOk.j2 k2 x3_2 x4_2 (((rd_T60 l0_1 x4_2).f3) != t138) a0_0 l0_1 l0_2 ((rd_T60 l0_1 x4_2).f0) ((rd_T60 l0_1 x4_2).f1) ((rd_T60 l0_1 x4_2).f2) ((rd_T60 l0_1 x4_2).f3))))) else (if (rd_T60 l0_1 x4_2).f3 = true then (if ((rd_T60 l0_1 x4_2).f0) = 3 then ((spec_l5In.f k2 l0_2 x4_2).bind fun t139 => (spec_LockOk.j2 k2 x3_2 x4_2 (((rd_T60 l0_1 x4_2).f3) != t139) a0_0 l0_1 l0_2 ((rd_T60 l0_1 x4_2).f0) ((rd_T60 l0_1 x4_2).f1) ((rd_T60 l0_1 x4_2).f2) ((rd_T60 l0_1 x4_2).f3))) else (spec_LockOk.j2 k2 x3_2 x4_2 true a0_0 l0_1 l0_2 ((rd_T60 l0_1 x4_2).f0) ((rd_T60 l0_1 x4_2).f1) ((rd_T60 l0_1 x4_2).f2) ((rd_T60 l0_1 x4_2).f3))) else ((spec_l5In.f k2 l0_2 x4_2).bind fun t140 => (spec_LockOk.j2 k2 x3_2 x4_2 (((rd_T60 l0_1 x4_2).f3) != t140) a0_0 l0_1 l0_2 ((rd_T60 l0_1 x4_2).f0) ((rd_T60 l0_1 x4_2).f1) ((rd_T60 l0_1 x4_2).f2) ((rd_T60 l0_1 x4_2).f3))))) else (spec_LockOk.j2 k2 x3_2 x4_2 true a0_0 l0_1 l0_2 ((rd_T60 l0_1 x4_2).f0) ((rd_T60 l0_1 x4_2).f1) ((rd_T60 l0_1 x4_2).f2) ((rd_T60 l0_1 x4_2).f3))) = some r := H
            have A22 := Aside0.mk A220
            clear A220
            by_cases c23 : t136 = true
            ·subst c23
             have H1 : (if ((rd_T60 l0_1 x4_2).f0) > 0 then (if ((rd_T60 l0_1 x4_2).f2) = 0 then (spec_LockOk.j2 k2 x3_2 x4_2 true a0_0 l0_1 l0_2 ((rd_T60 l0_1 x4_2).f0) ((rd_T60 l0_1 x4_2).f1) ((rd_T60 l0_1 x4_2).f2) ((rd_T60 l0_1 x4_2).f3)) else (if (rd_T60 l0_1 x4_2).f3 = true then (if ((rd_T60 l0_1 x4_2).f0) = 3 then ((spec_l5In.f k2 l0_2 x4_2).bind fun t137 => (spec_LockOk.j2 k2 x3_2 x4_2 (((rd_T60 l0_1 x4_2).f3) != t137) a0_0 l0_1 l0_2 ((rd_T60 l0_1 x4_2).f0) ((rd_T60 l0_1 x4_2).f1) ((rd_T60 l0_1 x4_2).f2) ((rd_T60 l0_1 x4_2).f3))) else (spec_LockOk.j2 k2 x3_2 x4_2 true a0_0 l0_1 l0_2 ((rd_T60 l0_1 x4_2).f0) ((rd_T60 l0_1 x4_2).f1) ((rd_T60 l0_1 x4_2).f2) ((rd_T60 l0_1 x4_2).f3))) else ((spec_l5In.f k2 l0_2 x4_2).bind fun t138 => (spec_LockOk.j2 k2 x3_2 x4_2 (((rd_T60 l0_1 x4_2).f3) != t138) a0_0 l0_1 l0_2 ((rd_T60 l0_1 x4_2).f0) ((rd_T60 l0_1 x4_2).f1) ((rd_T60 l0_1 x4_2).f2) ((rd_T60 l0_1 x4_2).f3))))) else (if (rd_T60 l0_1 x4_2).f3 = true then (if ((rd_T60 l0_1 x4_2).f0) = 3 then ((spec_l5In.f k2 l0_2 x4_2).bind fun t139 => (spec_LockOk.j2 k2 x3_2 x4_2 (((rd_T60 l0_1 x4_2).f3) != t139) a0_0 l0_1 l0_2 ((rd_T60 l0_1 x4_2).f0) ((rd_T60 l0_1 x4_2).f1) ((rd_T60 l0_1 x4_2).f2) ((rd_T60 l0_1 x4_2).f3))) else (spec_LockOk.j2 k2 x3_2 x4_2 true a0_0 l0_1 l0_2 ((rd_T60 l0_1 x4_2).f0) ((rd_T60 l0_1 x4_2).f1) ((rd_T60 l0_1 x4_2).f2) ((rd_T60 l0_1 x4_2).f3))) else ((spec_l5In.f k2 l0_2 x4_2).bind fun t140 => (spec_LockOk.j2 k2 x3_2 x4_2 (((rd_T60 l0_1 x4_2).f3) != t140) a0_0 l0_1 l0_2 ((rd_T60 l0_1 x4_2).f0) ((rd_T60 l0_1 x4_2).f1) ((rd_T60 l0_1 x4_2).f2) ((rd_T60 l0_1 x4_2).f3))))) = some r := by rw [if_pos rfl] at H; exact H
             clear H
             have H := H1
             clear H1
             by_cases c24 : ((rd_T60 l0_1 x4_2).f0) > 0
             ·rw [if_pos c24] at H
              have c24b0 : decide (0 < ((rd_T60 l0_1 x4_2).f0)) = true := decide_eq_true c24
              clear c24
              by_cases c25 : ((rd_T60 l0_1 x4_2).f2) = 0
              ·rw [if_pos c25] at H
               have c25b0 : (((rd_T60 l0_1 x4_2).f2) == 0) = true := beq_iff_eq.mpr c25
               have c25b1 : (((rd_T60 l0_1 x4_2).f2) != 0) = false := bne_eq_false_iff_eq.mpr c25
               clear c25
               have H' := Aside0.mk H
               clear H
               have hnb26 := NB133_129.out
               have hnc26 := NB129_133.out
               have hcz27_0 : w14.cell? ⟨gb133,0,none⟩ = some (.int .i64 0) := (blk_cell BK133.out 0).trans rfl
               have hcz27_1 : w14.cell? ⟨gb133,1,none⟩ = some (.int .i64 0) := (blk_cell BK133.out 1).trans rfl
               have hcz27_2 : w14.cell? ⟨gb133,2,none⟩ = some (.int .i64 0) := (blk_cell BK133.out 2).trans rfl
               have hcz27_3 : w14.cell? ⟨gb133,3,none⟩ = some (.bool false) := (blk_cell BK133.out 3).trans rfl
               have hfz27_0 := blk_frozen BK133.out 0
               have hfz27_1 := blk_frozen BK133.out 1
               have hfz27_2 := blk_frozen BK133.out 2
               have hfz27_3 := blk_frozen BK133.out 3
               go_wp2_with (first | (go_at_call 31; (with_reducible refine (spec_l6In.calls ((rd_T60 l0_1 x4_2).f0) 0 6 true _ A17.out).mono ?_); rintro e w' ⟨rfl,⟨nd,rfl⟩⟩; (try first | exact ⟨rfl,_,World.drewN_drewN _ _ _⟩ | exact ⟨rfl,_,Eq.trans (World.drewN_drewN _ _ _) (congrArg (World.drewN _) (Nat.add_assoc _ _ _))⟩)) | (go_at_call 31; (with_reducible refine (spec_l6In.calls ((rd_T60 l0_1 x4_2).f1) 0 2 true _ A19.out).mono ?_); rintro e w' ⟨rfl,⟨nd,rfl⟩⟩; (try first | exact ⟨rfl,_,World.drewN_drewN _ _ _⟩ | exact ⟨rfl,_,Eq.trans (World.drewN_drewN _ _ _) (congrArg (World.drewN _) (Nat.add_assoc _ _ _))⟩)) | (go_at_call 31; (with_reducible refine (spec_l6In.calls ((rd_T60 l0_1 x4_2).f2) 0 3 true _ A22.out).mono ?_); rintro e w' ⟨rfl,⟨nd,rfl⟩⟩; (try first | exact ⟨rfl,_,World.drewN_drewN _ _ _⟩ | exact ⟨rfl,_,Eq.trans (World.drewN_drewN _ _ _) (congrArg (World.drewN _) (Nat.add_assoc _ _ _))⟩)))
               repeat (go_quiet (first | (go_at_call 31; (with_reducible refine (spec_l6In.calls ((rd_T60 l0_1 x4_2).f0) 0 6 true _ A17.out).mono ?_); rintro e w' ⟨rfl,⟨nd,rfl⟩⟩; (try first | exact ⟨rfl,_,World.drewN_drewN _ _ _⟩ | exact ⟨rfl,_,Eq.trans (World.drewN_drewN _ _ _) (congrArg (World.drewN _) (Nat.add_assoc _ _ _))⟩)) | (go_at_call 31; (with_reducible refine (spec_l6In.calls ((rd_T60 l0_1 x4_2).f1) 0 2 true _ A19.out).mono ?_); rintro e w' ⟨rfl,⟨nd,rfl⟩⟩; (try first | exact ⟨rfl,_,World.drewN_drewN _ _ _⟩ | exact ⟨rfl,_,Eq.trans (World.drewN_drewN _ _ _) (congrArg (World.drewN _) (Nat.add_assoc _ _ _))⟩)) | (go_at_call 31; (with_reducible refine (spec_l6In.calls ((rd_T60 l0_1 x4_2).f2) 0 3 true _ A22.out).mono ?_); rintro e w' ⟨rfl,⟨nd,rfl⟩⟩; (try first | exact ⟨rfl,_,World.drewN_drewN _ _ _⟩ | exact ⟨rfl,_,Eq.trans (World.drewN_drewN _ _ _) (congrArg (World.drewN _) (Nat.add_assoc _ _ _))⟩))); try go_wp2_with (first | (go_at_call 31; (with_reducible refine (spec_l6In.calls ((rd_T60 l0_1 x4_2).f0) 0 6 true _ A17.out).mono ?_); rintro e w' ⟨rfl,⟨nd,rfl⟩⟩; (try first | exact ⟨rfl,_,World.drewN_drewN _ _ _⟩ | exact ⟨rfl,_,Eq.trans (World.drewN_drewN _ _ _) (congrArg (World.drewN _) (Nat.add_assoc _ _ _))⟩)) | (go_at_call 31; (with_reducible refine (spec_l6In.calls ((rd_T60 l0_1 x4_2).f1) 0 2 true _ A19.out).mono ?_); rintro e w' ⟨rfl,⟨nd,rfl⟩⟩; (try first | exact ⟨rfl,_,World.drewN_drewN _ _ _⟩ | exact ⟨rfl,_,Eq.trans (World.drewN_drewN _ _ _) (congrArg (World.drewN _) (Nat.add_assoc _ _ _))⟩)) | (go_at_call 31; (with_reducible refine (spec_l6In.calls ((rd_T60 l0_1 x4_2).f2) 0 3 true _ A22.out).mono ?_); rintro e w' ⟨rfl,⟨nd,rfl⟩⟩; (try first | exact ⟨rfl,_,World.drewN_drewN _ _ _⟩ | exact ⟨rfl,_,Eq.trans (World.drewN_drewN _ _ _) (congrArg (World.drewN _) (Nat.add_assoc _ _ _))⟩))))
               go_meet
               case rel => exact ⟨_,(true),(by first | rfl | (simp; done) | (simp [*]; done)),H',⟨by have := HJ1.out; have := HK2.out; first | omega | exact Nat.le_refl _⟩,⟨by (with_reducible repeat (first | refine blk_drewN ?_ _ | refine blk_drew ?_ | refine blk_alloc ?_ _)); refine blk_far ?_ NB129_133.out _; (with_reducible repeat (first | refine blk_drewN ?_ _ | refine blk_drew ?_ | refine blk_alloc ?_ _)); refine blk_far ?_ NB129_133.out _; (with_reducible repeat (first | refine blk_drewN ?_ _ | refine blk_drew ?_ | refine blk_alloc ?_ _)); refine blk_far ?_ NB129_133.out _; (with_reducible repeat (first | refine blk_drewN ?_ _ | refine blk_drew ?_ | refine blk_alloc ?_ _)); refine blk_far ?_ NB129_133.out _; (with_reducible repeat (first | refine blk_drewN ?_ _ | refine blk_drew ?_ | refine blk_alloc ?_ _)); first | exact BK129.out | (simp only [*]; exact BK129.out)⟩,⟨by (with_reducible repeat (first | refine blk_drewN ?_ _ | refine blk_drew ?_ | refine blk_alloc ?_ _)); refine blk_put (cs := #[.int .i64 ((rd_T60 l0_1 x4_2).f0),.int .i64 ((rd_T60 l0_1 x4_2).f1),.int .i64 ((rd_T60 l0_1 x4_2).f2),.bool false]) ?_ 3 _ rfl; (with_reducible repeat (first | refine blk_drewN ?_ _ | refine blk_drew ?_ | refine blk_alloc ?_ _)); refine blk_put (cs := #[.int .i64 ((rd_T60 l0_1 x4_2).f0),.int .i64 ((rd_T60 l0_1 x4_2).f1),.int .i64 0,.bool false]) ?_ 2 _ rfl; (with_reducible repeat (first | refine blk_drewN ?_ _ | refine blk_drew ?_ | refine blk_alloc ?_ _)); refine blk_put (cs := #[.int .i64 ((rd_T60 l0_1 x4_2).f0),.int .i64 0,.int .i64 0,.bool false]) ?_ 1 _ rfl; (with_reducible repeat (first | refine blk_drewN ?_ _ | refine blk_drew ?_ | refine blk_alloc ?_ _)); refine blk_put (cs := #[.int .i64 0,.int .i64 0,.int .i64 0,.bool false]) ?_ 0 _ rfl; (with_reducible repeat (first | refine blk_drewN ?_ _ | refine blk_drew ?_ | refine blk_alloc ?_ _)); first | exact BK133.out | (simp only [*]; exact BK133.out)⟩,⟨by repeat (first | (with_reducible first | exact HB.out | apply below_alloc | apply pw_below_drewN | apply below_drew1 | refine below_set ?_ GE129.out | refine below_set ?_ GE133.out) | exact HB.out)⟩⟩
              ·rw [if_neg c25] at H
               have c25b0 : (((rd_T60 l0_1 x4_2).f2) == 0) = false := beq_eq_false_iff_ne.mpr c25
               have c25b1 : (((rd_T60 l0_1 x4_2).f2) != 0) = true := bne_iff_ne.mpr c25
               obtain ⟨bq28,hbq28⟩ : ∃ b_ : Bool,b_ = ((rd_T60 l0_1 x4_2).f3) := ⟨_,rfl⟩
               replace H : (if bq28 = true then (if ((rd_T60 l0_1 x4_2).f0) = 3 then ((spec_l5In.f k2 l0_2 x4_2).bind fun t137 => (spec_LockOk.j2 k2 x3_2 x4_2 ((bq28) != t137) a0_0 l0_1 l0_2 ((rd_T60 l0_1 x4_2).f0) ((rd_T60 l0_1 x4_2).f1) ((rd_T60 l0_1 x4_2).f2) bq28)) else (spec_LockOk.j2 k2 x3_2 x4_2 true a0_0 l0_1 l0_2 ((rd_T60 l0_1 x4_2).f0) ((rd_T60 l0_1 x4_2).f1) ((rd_T60 l0_1 x4_2).f2) bq28)) else ((spec_l5In.f k2 l0_2 x4_2).bind fun t138 => (spec_LockOk.j2 k2 x3_2 x4_2 ((bq28) != t138) a0_0 l0_1 l0_2 ((rd_T60 l0_1 x4_2).f0) ((rd_T60 l0_1 x4_2).f1) ((rd_T60 l0_1 x4_2).f2) bq28))) = some r := by rw [← hbq28] at H; exact H
               have Nbq28 := Aside0.mk hbq28
               clear hbq28
               by_cases c29 : bq28 = true
               ·subst c29
                (try rw [← Nbq28.out])
                have H1 : (if ((rd_T60 l0_1 x4_2).f0) = 3 then ((spec_l5In.f k2 l0_2 x4_2).bind fun t137 => (spec_LockOk.j2 k2 x3_2 x4_2 ((true) != t137) a0_0 l0_1 l0_2 ((rd_T60 l0_1 x4_2).f0) ((rd_T60 l0_1 x4_2).f1) ((rd_T60 l0_1 x4_2).f2) true)) else (spec_LockOk.j2 k2 x3_2 x4_2 true a0_0 l0_1 l0_2 ((rd_T60 l0_1 x4_2).f0) ((rd_T60 l0_1 x4_2).f1) ((rd_T60 l0_1 x4_2).f2) true)) = some r := by rw [if_pos rfl] at H; exact H
                clear H
                have H := H1
                clear H1
                by_cases c30 : ((rd_T60 l0_1 x4_2).f0) = 3
                ·rw [if_pos c30] at H
                 have c30b0 : (((rd_T60 l0_1 x4_2).f0) == 3) = true := beq_iff_eq.mpr c30
                 have c30b1 : (((rd_T60 l0_1 x4_2).f0) != 3) = false := bne_eq_false_iff_eq.mpr c30
                 clear c30
                 replace H := Option.bind_eq_some_iff.mp H
                 obtain ⟨t137,A310,H⟩ := H
                 replace H : (spec_LockOk.j2 k2 x3_2 x4_2 ((true) != t137) a0_0 l0_1 l0_2 ((rd_T60 l0_1 x4_2).f0) ((rd_T60 l0_1 x4_2).f1) ((rd_T60 l0_1 x4_2).f2) true) = some r := H
                 have A31 := Aside0.mk A310
                 clear A310
                 have H' := Aside0.mk H
                 clear H
                 have hnb32 := NB133_129.out
                 have hnc32 := NB129_133.out
                 have hcz33_0 : w14.cell? ⟨gb133,0,none⟩ = some (.int .i64 0) := (blk_cell BK133.out 0).trans rfl
                 have hcz33_1 : w14.cell? ⟨gb133,1,none⟩ = some (.int .i64 0) := (blk_cell BK133.out 1).trans rfl
                 have hcz33_2 : w14.cell? ⟨gb133,2,none⟩ = some (.int .i64 0) := (blk_cell BK133.out 2).trans rfl
                 have hcz33_3 : w14.cell? ⟨gb133,3,none⟩ = some (.bool false) := (blk_cell BK133.out 3).trans rfl
                 have hfz33_0 := blk_frozen BK133.out 0
                 have hfz33_1 := blk_frozen BK133.out 1
                 have hfz33_2 := blk_frozen BK133.out 2
                 have hfz33_3 := blk_frozen BK133.out 3
                 go_wp2_with (first | (go_at_call 31; (with_reducible refine (spec_l6In.calls ((rd_T60 l0_1 x4_2).f0) 0 6 true _ A17.out).mono ?_); rintro e w' ⟨rfl,⟨nd,rfl⟩⟩; (try first | exact ⟨rfl,_,World.drewN_drewN _ _ _⟩ | exact ⟨rfl,_,Eq.trans (World.drewN_drewN _ _ _) (congrArg (World.drewN _) (Nat.add_assoc _ _ _))⟩)) | (go_at_call 31; (with_reducible refine (spec_l6In.calls ((rd_T60 l0_1 x4_2).f1) 0 2 true _ A19.out).mono ?_); rintro e w' ⟨rfl,⟨nd,rfl⟩⟩; (try first | exact ⟨rfl,_,World.drewN_drewN _ _ _⟩ | exact ⟨rfl,_,Eq.trans (World.drewN_drewN _ _ _) (congrArg (World.drewN _) (Nat.add_assoc _ _ _))⟩)) | (go_at_call 31; (with_reducible refine (spec_l6In.calls ((rd_T60 l0_1 x4_2).f2) 0 3 true _ A22.out).mono ?_); rintro e w' ⟨rfl,⟨nd,rfl⟩⟩; (try first | exact ⟨rfl,_,World.drewN_drewN _ _ _⟩ | exact ⟨rfl,_,Eq.trans (World.drewN_drewN _ _ _) (congrArg (World.drewN _) (Nat.add_assoc _ _ _))⟩); have hcz34_0 : w14.cell? ⟨gb129,0,none⟩ = some (.int .i64 a0_0) := (blk_cell BK129.out 0).trans rfl; have hcz34_1 : w14.cell? ⟨gb129,1,none⟩ = some (.slice (some ad132) l0_1.length c0_1) := (blk_cell BK129.out 1).trans rfl; have hcz34_2 : w14.cell? ⟨gb129,2,none⟩ = some (.slice A0_2 l0_2.length c0_2) := (blk_cell BK129.out 2).trans rfl; have hfz34_0 := blk_frozen BK129.out 0; have hfz34_1 := blk_frozen BK129.out 1; have hfz34_2 := blk_frozen BK129.out 2) | (go_at_call 43; (with_reducible refine (spec_l5In.calls k2 _ _ l0_2 x4_2 t137 _ ?side1 ?side2 A31.out).mono ?_); (case side1 => exact Kd.C_below HR0_2.out (by repeat (first | (with_reducible first | exact HB.out | apply below_alloc | apply pw_below_drewN | apply below_drew1 | refine below_set ?_ GE129.out | refine below_set ?_ GE133.out) | exact HB.out))); (case side2 => exact HC0_2.out); rintro e w' ⟨rfl,⟨nd,rfl⟩⟩; (try first | exact ⟨rfl,_,World.drewN_drewN _ _ _⟩ | exact ⟨rfl,_,Eq.trans (World.drewN_drewN _ _ _) (congrArg (World.drewN _) (Nat.add_assoc _ _ _))⟩)))
                 repeat (go_quiet (first | (go_at_call 31; (with_reducible refine (spec_l6In.calls ((rd_T60 l0_1 x4_2).f0) 0 6 true _ A17.out).mono ?_); rintro e w' ⟨rfl,⟨nd,rfl⟩⟩; (try first | exact ⟨rfl,_,World.drewN_drewN _ _ _⟩ | exact ⟨rfl,_,Eq.trans (World.drewN_drewN _ _ _) (congrArg (World.drewN _) (Nat.add_assoc _ _ _))⟩)) | (go_at_call 31; (with_reducible refine (spec_l6In.calls ((rd_T60 l0_1 x4_2).f1) 0 2 true _ A19.out).mono ?_); rintro e w' ⟨rfl,⟨nd,rfl⟩⟩; (try first | exact ⟨rfl,_,World.drewN_drewN _ _ _⟩ | exact ⟨rfl,_,Eq.trans (World.drewN_drewN _ _ _) (congrArg (World.drewN _) (Nat.add_assoc _ _ _))⟩)) | (go_at_call 31; (with_reducible refine (spec_l6In.calls ((rd_T60 l0_1 x4_2).f2) 0 3 true _ A22.out).mono ?_); rintro e w' ⟨rfl,⟨nd,rfl⟩⟩; (try first | exact ⟨rfl,_,World.drewN_drewN _ _ _⟩ | exact ⟨rfl,_,Eq.trans (World.drewN_drewN _ _ _) (congrArg (World.drewN _) (Nat.add_assoc _ _ _))⟩); have hcz34_0 : w14.cell? ⟨gb129,0,none⟩ = some (.int .i64 a0_0) := (blk_cell BK129.out 0).trans rfl; have hcz34_1 : w14.cell? ⟨gb129,1,none⟩ = some (.slice (some ad132) l0_1.length c0_1) := (blk_cell BK129.out 1).trans rfl; have hcz34_2 : w14.cell? ⟨gb129,2,none⟩ = some (.slice A0_2 l0_2.length c0_2) := (blk_cell BK129.out 2).trans rfl; have hfz34_0 := blk_frozen BK129.out 0; have hfz34_1 := blk_frozen BK129.out 1; have hfz34_2 := blk_frozen BK129.out 2) | (go_at_call 43; (with_reducible refine (spec_l5In.calls k2 _ _ l0_2 x4_2 t137 _ ?side1 ?side2 A31.out).mono ?_); (case side1 => exact Kd.C_below HR0_2.out (by repeat (first | (with_reducible first | exact HB.out | apply below_alloc | apply pw_below_drewN | apply below_drew1 | refine below_set ?_ GE129.out | refine below_set ?_ GE133.out) | exact HB.out))); (case side2 => exact HC0_2.out); rintro e w' ⟨rfl,⟨nd,rfl⟩⟩; (try first | exact ⟨rfl,_,World.drewN_drewN _ _ _⟩ | exact ⟨rfl,_,Eq.trans (World.drewN_drewN _ _ _) (congrArg (World.drewN _) (Nat.add_assoc _ _ _))⟩))); try go_wp2_with (first | (go_at_call 31; (with_reducible refine (spec_l6In.calls ((rd_T60 l0_1 x4_2).f0) 0 6 true _ A17.out).mono ?_); rintro e w' ⟨rfl,⟨nd,rfl⟩⟩; (try first | exact ⟨rfl,_,World.drewN_drewN _ _ _⟩ | exact ⟨rfl,_,Eq.trans (World.drewN_drewN _ _ _) (congrArg (World.drewN _) (Nat.add_assoc _ _ _))⟩)) | (go_at_call 31; (with_reducible refine (spec_l6In.calls ((rd_T60 l0_1 x4_2).f1) 0 2 true _ A19.out).mono ?_); rintro e w' ⟨rfl,⟨nd,rfl⟩⟩; (try first | exact ⟨rfl,_,World.drewN_drewN _ _ _⟩ | exact ⟨rfl,_,Eq.trans (World.drewN_drewN _ _ _) (congrArg (World.drewN _) (Nat.add_assoc _ _ _))⟩)) | (go_at_call 31; (with_reducible refine (spec_l6In.calls ((rd_T60 l0_1 x4_2).f2) 0 3 true _ A22.out).mono ?_); rintro e w' ⟨rfl,⟨nd,rfl⟩⟩; (try first | exact ⟨rfl,_,World.drewN_drewN _ _ _⟩ | exact ⟨rfl,_,Eq.trans (World.drewN_drewN _ _ _) (congrArg (World.drewN _) (Nat.add_assoc _ _ _))⟩); have hcz34_0 : w14.cell? ⟨gb129,0,none⟩ = some (.int .i64 a0_0) := (blk_cell BK129.out 0).trans rfl; have hcz34_1 : w14.cell? ⟨gb129,1,none⟩ = some (.slice (some ad132) l0_1.length c0_1) := (blk_cell BK129.out 1).trans rfl; have hcz34_2 : w14.cell? ⟨gb129,2,none⟩ = some (.slice A0_2 l0_2.length c0_2) := (blk_cell BK129.out 2).trans rfl; have hfz34_0 := blk_frozen BK129.out 0; have hfz34_1 := blk_frozen BK129.out 1; have hfz34_2 := blk_frozen BK129.out 2) | (go_at_call 43; (with_reducible refine (spec_l5In.calls k2 _ _ l0_2 x4_2 t137 _ ?side1 ?side2 A31.out).mono ?_); (case side1 => exact Kd.C_below HR0_2.out (by repeat (first | (with_reducible first | exact HB.out | apply below_alloc | apply pw_below_drewN | apply below_drew1 | refine below_set ?_ GE129.out | refine below_set ?_ GE133.out) | exact HB.out))); (case side2 => exact HC0_2.out); rintro e w' ⟨rfl,⟨nd,rfl⟩⟩; (try first | exact ⟨rfl,_,World.drewN_drewN _ _ _⟩ | exact ⟨rfl,_,Eq.trans (World.drewN_drewN _ _ _) (congrArg (World.drewN _) (Nat.add_assoc _ _ _))⟩))))
                 go_meet
                 case rel => (try rw [← Nbq28.out]); exact ⟨_,(((true) != t137)),(by first | rfl | (simp; done) | (simp [*]; done)),H',⟨by have := HJ1.out; have := HK2.out; first | omega | exact Nat.le_refl _⟩,⟨by (with_reducible repeat (first | refine blk_drewN ?_ _ | refine blk_drew ?_ | refine blk_alloc ?_ _)); refine blk_far ?_ NB129_133.out _; (with_reducible repeat (first | refine blk_drewN ?_ _ | refine blk_drew ?_ | refine blk_alloc ?_ _)); refine blk_far ?_ NB129_133.out _; (with_reducible repeat (first | refine blk_drewN ?_ _ | refine blk_drew ?_ | refine blk_alloc ?_ _)); refine blk_far ?_ NB129_133.out _; (with_reducible repeat (first | refine blk_drewN ?_ _ | refine blk_drew ?_ | refine blk_alloc ?_ _)); refine blk_far ?_ NB129_133.out _; (with_reducible repeat (first | refine blk_drewN ?_ _ | refine blk_drew ?_ | refine blk_alloc ?_ _)); first | exact BK129.out | (simp only [*]; exact BK129.out)⟩,⟨by (with_reducible repeat (first | refine blk_drewN ?_ _ | refine blk_drew ?_ | refine blk_alloc ?_ _)); refine blk_put (cs := #[.int .i64 ((rd_T60 l0_1 x4_2).f0),.int .i64 ((rd_T60 l0_1 x4_2).f1),.int .i64 ((rd_T60 l0_1 x4_2).f2),.bool false]) ?_ 3 _ rfl; (with_reducible repeat (first | refine blk_drewN ?_ _ | refine blk_drew ?_ | refine blk_alloc ?_ _)); refine blk_put (cs := #[.int .i64 ((rd_T60 l0_1 x4_2).f0),.int .i64 ((rd_T60 l0_1 x4_2).f1),.int .i64 0,.bool false]) ?_ 2 _ rfl; (with_reducible repeat (first | refine blk_drewN ?_ _ | refine blk_drew ?_ | refine blk_alloc ?_ _)); refine blk_put (cs := #[.int .i64 ((rd_T60 l0_1 x4_2).f0),.int .i64 0,.int .i64 0,.bool false]) ?_ 1 _ rfl; (with_reducible repeat (first | refine blk_drewN ?_ _ | refine blk_drew ?_ | refine blk_alloc ?_ _)); refine blk_put (cs := #[.int .i64 0,.int .i64 0,.int .i64 0,.bool false]) ?_ 0 _ rfl; (with_reducible repeat (first | refine blk_drewN ?_ _ | refine blk_drew ?_ | refine blk_alloc ?_ _)); first | exact BK133.out | (simp only [*]; exact BK133.out)⟩,⟨by repeat (first | (with_reducible first | exact HB.out | apply below_alloc | apply pw_below_drewN | apply below_drew1 | refine below_set ?_ GE129.out | refine below_set ?_ GE133.out) | exact HB.out)⟩⟩
                ·rw [if_neg c30] at H
                 have c30b0 : (((rd_T60 l0_1 x4_2).f0) == 3) = false := beq_eq_false_iff_ne.mpr c30
                 have c30b1 : (((rd_T60 l0_1 x4_2).f0) != 3) = true := bne_iff_ne.mpr c30
                 have H' := Aside0.mk H
                 clear H
                 have hnb35 := NB133_129.out
                 have hnc35 := NB129_133.out
                 have hcz36_0 : w14.cell? ⟨gb133,0,none⟩ = some (.int .i64 0) := (blk_cell BK133.out 0).trans rfl
                 have hcz36_1 : w14.cell? ⟨gb133,1,none⟩ = some (.int .i64 0) := (blk_cell BK133.out 1).trans rfl
                 have hcz36_2 : w14.cell? ⟨gb133,2,none⟩ = some (.int .i64 0) := (blk_cell BK133.out 2).trans rfl
                 have hcz36_3 : w14.cell? ⟨gb133,3,none⟩ = some (.bool false) := (blk_cell BK133.out 3).trans rfl
                 have hfz36_0 := blk_frozen BK133.out 0
                 have hfz36_1 := blk_frozen BK133.out 1
                 have hfz36_2 := blk_frozen BK133.out 2
                 have hfz36_3 := blk_frozen BK133.out 3
                 go_wp2_with (first | (go_at_call 31; (with_reducible refine (spec_l6In.calls ((rd_T60 l0_1 x4_2).f0) 0 6 true _ A17.out).mono ?_); rintro e w' ⟨rfl,⟨nd,rfl⟩⟩; (try first | exact ⟨rfl,_,World.drewN_drewN _ _ _⟩ | exact ⟨rfl,_,Eq.trans (World.drewN_drewN _ _ _) (congrArg (World.drewN _) (Nat.add_assoc _ _ _))⟩)) | (go_at_call 31; (with_reducible refine (spec_l6In.calls ((rd_T60 l0_1 x4_2).f1) 0 2 true _ A19.out).mono ?_); rintro e w' ⟨rfl,⟨nd,rfl⟩⟩; (try first | exact ⟨rfl,_,World.drewN_drewN _ _ _⟩ | exact ⟨rfl,_,Eq.trans (World.drewN_drewN _ _ _) (congrArg (World.drewN _) (Nat.add_assoc _ _ _))⟩)) | (go_at_call 31; (with_reducible refine (spec_l6In.calls ((rd_T60 l0_1 x4_2).f2) 0 3 true _ A22.out).mono ?_); rintro e w' ⟨rfl,⟨nd,rfl⟩⟩; (try first | exact ⟨rfl,_,World.drewN_drewN _ _ _⟩ | exact ⟨rfl,_,Eq.trans (World.drewN_drewN _ _ _) (congrArg (World.drewN _) (Nat.add_assoc _ _ _))⟩)))
                 repeat (go_quiet (first | (go_at_call 31; (with_reducible refine (spec_l6In.calls ((rd_T60 l0_1 x4_2).f0) 0 6 true _ A17.out).mono ?_); rintro e w' ⟨rfl,⟨nd,rfl⟩⟩; (try first | exact ⟨rfl,_,World.drewN_drewN _ _ _⟩ | exact ⟨rfl,_,Eq.trans (World.drewN_drewN _ _ _) (congrArg (World.drewN _) (Nat.add_assoc _ _ _))⟩)) | (go_at_call 31; (with_reducible refine (spec_l6In.calls ((rd_T60 l0_1 x4_2).f1) 0 2 true _ A19.out).mono ?_); rintro e w' ⟨rfl,⟨nd,rfl⟩⟩; (try first | exact ⟨rfl,_,World.drewN_drewN _ _ _⟩ | exact ⟨rfl,_,Eq.trans (World.drewN_drewN _ _ _) (congrArg (World.drewN _) (Nat.add_assoc _ _ _))⟩)) | (go_at_call 31; (with_reducible refine (spec_l6In.calls ((rd_T60 l0_1 x4_2).f2) 0 3 true _ A22.out).mono ?_); rintro e w' ⟨rfl,⟨nd,rfl⟩⟩; (try first | exact ⟨rfl,_,World.drewN_drewN _ _ _⟩ | exact ⟨rfl,_,Eq.trans (World.drewN_drewN _ _ _) (congrArg (World.drewN _) (Nat.add_assoc _ _ _))⟩))); try go_wp2_with (first | (go_at_call 31; (with_reducible refine (spec_l6In.calls ((rd_T60 l0_1 x4_2).f0) 0 6 true _ A17.out).mono ?_); rintro e w' ⟨rfl,⟨nd,rfl⟩⟩; (try first | exact ⟨rfl,_,World.drewN_drewN _ _ _⟩ | exact ⟨rfl,_,Eq.trans (World.drewN_drewN _ _ _) (congrArg (World.drewN _) (Nat.add_assoc _ _ _))⟩)) | (go_at_call 31; (with_reducible refine (spec_l6In.calls ((rd_T60 l0_1 x4_2).f1) 0 2 true _ A19.out).mono ?_); rintro e w' ⟨rfl,⟨nd,rfl⟩⟩; (try first | exact ⟨rfl,_,World.drewN_drewN _ _ _⟩ | exact ⟨rfl,_,Eq.trans (World.drewN_drewN _ _ _) (congrArg (World.drewN _) (Nat.add_assoc _ _ _))⟩)) | (go_at_call 31; (with_reducible refine (spec_l6In.calls ((rd_T60 l0_1 x4_2).f2) 0 3 true _ A22.out).mono ?_); rintro e w' ⟨rfl,⟨nd,rfl⟩⟩; (try first | exact ⟨rfl,_,World.drewN_drewN _ _ _⟩ | exact ⟨rfl,_,Eq.trans (World.drewN_drewN _ _ _) (congrArg (World.drewN _) (Nat.add_assoc _ _ _))⟩))))
                 go_meet
                 case rel => (try rw [← Nbq28.out]); exact ⟨_,(true),(by first | rfl | (simp; done) | (simp [*]; done)),H',⟨by have := HJ1.out; have := HK2.out; first | omega | exact Nat.le_refl _⟩,⟨by (with_reducible repeat (first | refine blk_drewN ?_ _ | refine blk_drew ?_ | refine blk_alloc ?_ _)); refine blk_far ?_ NB129_133.out _; (with_reducible repeat (first | refine blk_drewN ?_ _ | refine blk_drew ?_ | refine blk_alloc ?_ _)); refine blk_far ?_ NB129_133.out _; (with_reducible repeat (first | refine blk_drewN ?_ _ | refine blk_drew ?_ | refine blk_alloc ?_ _)); refine blk_far ?_ NB129_133.out _; (with_reducible repeat (first | refine blk_drewN ?_ _ | refine blk_drew ?_ | refine blk_alloc ?_ _)); refine blk_far ?_ NB129_133.out _; (with_reducible repeat (first | refine blk_drewN ?_ _ | refine blk_drew ?_ | refine blk_alloc ?_ _)); first | exact BK129.out | (simp only [*]; exact BK129.out)⟩,⟨by (with_reducible repeat (first | refine blk_drewN ?_ _ | refine blk_drew ?_ | refine blk_alloc ?_ _)); refine blk_put (cs := #[.int .i64 ((rd_T60 l0_1 x4_2).f0),.int .i64 ((rd_T60 l0_1 x4_2).f1),.int .i64 ((rd_T60 l0_1 x4_2).f2),.bool false]) ?_ 3 _ rfl; (with_reducible repeat (first | refine blk_drewN ?_ _ | refine blk_drew ?_ | refine blk_alloc ?_ _)); refine blk_put (cs := #[.int .i64 ((rd_T60 l0_1 x4_2).f0),.int .i64 ((rd_T60 l0_1 x4_2).f1),.int .i64 0,.bool false]) ?_ 2 _ rfl; (with_reducible repeat (first | refine blk_drewN ?_ _ | refine blk_drew ?_ | refine blk_alloc ?_ _)); refine blk_put (cs := #[.int .i64 ((rd_T60 l0_1 x4_2).f0),.int .i64 0,.int .i64 0,.bool false]) ?_ 1 _ rfl; (with_reducible repeat (first | refine blk_drewN ?_ _ | refine blk_drew ?_ | refine blk_alloc ?_ _)); refine blk_put (cs := #[.int .i64 0,.int .i64 0,.int .i64 0,.bool false]) ?_ 0 _ rfl; (with_reducible repeat (first | refine blk_drewN ?_ _ | refine blk_drew ?_ | refine blk_alloc ?_ _)); first | exact BK133.out | (simp only [*]; exact BK133.out)⟩,⟨by repeat (first | (with_reducible first | exact HB.out | apply below_alloc | apply pw_below_drewN | apply below_drew1 | refine below_set ?_ GE129.out | refine below_set ?_ GE133.out) | exact HB.out)⟩⟩
               ·replace c29 := Bool.eq_false_iff.mpr c29
                subst c29
                (try rw [← Nbq28.out])
                have H1 : ((spec_l5In.f k2 l0_2 x4_2).bind fun t138 => (spec_LockOk.j2 k2 x3_2 x4_2 ((false) != t138) a0_0 l0_1 l0_2 ((rd_T60 l0_1 x4_2).f0) ((rd_T60 l0_1 x4_2).f1) ((rd_T60 l0_1 x4_2).f2) false)) = some r := by rw [if_neg (show ¬ (false = true) by decide)] at H; exact H
                clear H
                have H := H1
                clear H1
                replace H := Option.bind_eq_some_iff.mp H
                obtain ⟨t138,A370,H⟩ := H
                replace H : (spec_LockOk.j2 k2 x3_2 x4_2 ((false) != t138) a0_0 l0_1 l0_2 ((rd_T60 l0_1 x4_2).f0) ((rd_T60 l0_1 x4_2).f1) ((rd_T60 l0_1 x4_2).f2) false) = some r := H
                have A37 := Aside0.mk A370
                clear A370
                have H' := Aside0.mk H
                clear H
                have hnb38 := NB133_129.out
                have hnc38 := NB129_133.out
                have hcz39_0 : w14.cell? ⟨gb133,0,none⟩ = some (.int .i64 0) := (blk_cell BK133.out 0).trans rfl
                have hcz39_1 : w14.cell? ⟨gb133,1,none⟩ = some (.int .i64 0) := (blk_cell BK133.out 1).trans rfl
                have hcz39_2 : w14.cell? ⟨gb133,2,none⟩ = some (.int .i64 0) := (blk_cell BK133.out 2).trans rfl
                have hcz39_3 : w14.cell? ⟨gb133,3,none⟩ = some (.bool false) := (blk_cell BK133.out 3).trans rfl
                have hfz39_0 := blk_frozen BK133.out 0
                have hfz39_1 := blk_frozen BK133.out 1
                have hfz39_2 := blk_frozen BK133.out 2
                have hfz39_3 := blk_frozen BK133.out 3
                go_wp2_with (first | (go_at_call 31; (with_reducible refine (spec_l6In.calls ((rd_T60 l0_1 x4_2).f0) 0 6 true _ A17.out).mono ?_); rintro e w' ⟨rfl,⟨nd,rfl⟩⟩; (try first | exact ⟨rfl,_,World.drewN_drewN _ _ _⟩ | exact ⟨rfl,_,Eq.trans (World.drewN_drewN _ _ _) (congrArg (World.drewN _) (Nat.add_assoc _ _ _))⟩)) | (go_at_call 31; (with_reducible refine (spec_l6In.calls ((rd_T60 l0_1 x4_2).f1) 0 2 true _ A19.out).mono ?_); rintro e w' ⟨rfl,⟨nd,rfl⟩⟩; (try first | exact ⟨rfl,_,World.drewN_drewN _ _ _⟩ | exact ⟨rfl,_,Eq.trans (World.drewN_drewN _ _ _) (congrArg (World.drewN _) (Nat.add_assoc _ _ _))⟩)) | (go_at_call 31; (with_reducible refine (spec_l6In.calls ((rd_T60 l0_1 x4_2).f2) 0 3 true _ A22.out).mono ?_); rintro e w' ⟨rfl,⟨nd,rfl⟩⟩; (try first | exact ⟨rfl,_,World.drewN_drewN _ _ _⟩ | exact ⟨rfl,_,Eq.trans (World.drewN_drewN _ _ _) (congrArg (World.drewN _) (Nat.add_assoc _ _ _))⟩); have hcz40_0 : w14.cell? ⟨gb129,0,none⟩ = some (.int .i64 a0_0) := (blk_cell BK129.out 0).trans rfl; have hcz40_1 : w14.cell? ⟨gb129,1,none⟩ = some (.slice (some ad132) l0_1.length c0_1) := (blk_cell BK129.out 1).trans rfl; have hcz40_2 : w14.cell? ⟨gb129,2,none⟩ = some (.slice A0_2 l0_2.length c0_2) := (blk_cell BK129.out 2).trans rfl; have hfz40_0 := blk_frozen BK129.out 0; have hfz40_1 := blk_frozen BK129.out 1; have hfz40_2 := blk_frozen BK129.out 2) | (go_at_call 43; (with_reducible refine (spec_l5In.calls k2 _ _ l0_2 x4_2 t138 _ ?side1 ?side2 A37.out).mono ?_); (case side1 => exact Kd.C_below HR0_2.out (by repeat (first | (with_reducible first | exact HB.out | apply below_alloc | apply pw_below_drewN | apply below_drew1 | refine below_set ?_ GE129.out | refine below_set ?_ GE133.out) | exact HB.out))); (case side2 => exact HC0_2.out); rintro e w' ⟨rfl,⟨nd,rfl⟩⟩; (try first | exact ⟨rfl,_,World.drewN_drewN _ _ _⟩ | exact ⟨rfl,_,Eq.trans (World.drewN_drewN _ _ _) (congrArg (World.drewN _) (Nat.add_assoc _ _ _))⟩)))
                repeat (go_quiet (first | (go_at_call 31; (with_reducible refine (spec_l6In.calls ((rd_T60 l0_1 x4_2).f0) 0 6 true _ A17.out).mono ?_); rintro e w' ⟨rfl,⟨nd,rfl⟩⟩; (try first | exact ⟨rfl,_,World.drewN_drewN _ _ _⟩ | exact ⟨rfl,_,Eq.trans (World.drewN_drewN _ _ _) (congrArg (World.drewN _) (Nat.add_assoc _ _ _))⟩)) | (go_at_call 31; (with_reducible refine (spec_l6In.calls ((rd_T60 l0_1 x4_2).f1) 0 2 true _ A19.out).mono ?_); rintro e w' ⟨rfl,⟨nd,rfl⟩⟩; (try first | exact ⟨rfl,_,World.drewN_drewN _ _ _⟩ | exact ⟨rfl,_,Eq.trans (World.drewN_drewN _ _ _) (congrArg (World.drewN _) (Nat.add_assoc _ _ _))⟩)) | (go_at_call 31; (with_reducible refine (spec_l6In.calls ((rd_T60 l0_1 x4_2).f2) 0 3 true _ A22.out).mono ?_); rintro e w' ⟨rfl,⟨nd,rfl⟩⟩; (try first | exact ⟨rfl,_,World.drewN_drewN _ _ _⟩ | exact ⟨rfl,_,Eq.trans (World.drewN_drewN _ _ _) (congrArg (World.drewN _) (Nat.add_assoc _ _ _))⟩); have hcz40_0 : w14.cell? ⟨gb129,0,none⟩ = some (.int .i64 a0_0) := (blk_cell BK129.out 0).trans rfl; have hcz40_1 : w14.cell? ⟨gb129,1,none⟩ = some (.slice (some ad132) l0_1.length c0_1) := (blk_cell BK129.out 1).trans rfl; have hcz40_2 : w14.cell? ⟨gb129,2,none⟩ = some (.slice A0_2 l0_2.length c0_2) := (blk_cell BK129.out 2).trans rfl; have hfz40_0 := blk_frozen BK129.out 0; have hfz40_1 := blk_frozen BK129.out 1; have hfz40_2 := blk_frozen BK129.out 2) | (go_at_call 43; (with_reducible refine (spec_l5In.calls k2 _ _ l0_2 x4_2 t138 _ ?side1 ?side2 A37.out).mono ?_); (case side1 => exact Kd.C_below HR0_2.out (by repeat (first | (with_reducible first | exact HB.out | apply below_alloc | apply pw_below_drewN | apply below_drew1 | refine below_set ?_ GE129.out | refine below_set ?_ GE133.out) | exact HB.out))); (case side2 => exact HC0_2.out); rintro e w' ⟨rfl,⟨nd,rfl⟩⟩; (try first | exact ⟨rfl,_,World.drewN_drewN _ _ _⟩ | exact ⟨rfl,_,Eq.trans (World.drewN_drewN _ _ _) (congrArg (World.drewN _) (Nat.add_assoc _ _ _))⟩))); try go_wp2_with (first | (go_at_call 31; (with_reducible refine (spec_l6In.calls ((rd_T60 l0_1 x4_2).f0) 0 6 true _ A17.out).mono ?_); rintro e w' ⟨rfl,⟨nd,rfl⟩⟩; (try first | exact ⟨rfl,_,World.drewN_drewN _ _ _⟩ | exact ⟨rfl,_,Eq.trans (World.drewN_drewN _ _ _) (congrArg (World.drewN _) (Nat.add_assoc _ _ _))⟩)) | (go_at_call 31; (with_reducible refine (spec_l6In.calls ((rd_T60 l0_1 x4_2).f1) 0 2 true _ A19.out).mono ?_); rintro e w' ⟨rfl,⟨nd,rfl⟩⟩; (try first | exact ⟨rfl,_,World.drewN_drewN _ _ _⟩ | exact ⟨rfl,_,Eq.trans (World.drewN_drewN _ _ _) (congrArg (World.drewN _) (Nat.add_assoc _ _ _))⟩)) | (go_at_call 31; (with_reducible refine (spec_l6In.calls ((rd_T60 l0_1 x4_2).f2) 0 3 true _ A22.out).mono ?_); rintro e w' ⟨rfl,⟨nd,rfl⟩⟩; (try first | exact ⟨rfl,_,World.drewN_drewN _ _ _⟩ | exact ⟨rfl,_,Eq.trans (World.drewN_drewN _ _ _) (congrArg (World.drewN _) (Nat.add_assoc _ _ _))⟩); have hcz40_0 : w14.cell? ⟨gb129,0,none⟩ = some (.int .i64 a0_0) := (blk_cell BK129.out 0).trans rfl; have hcz40_1 : w14.cell? ⟨gb129,1,none⟩ = some (.slice (some ad132) l0_1.length c0_1) := (blk_cell BK129.out 1).trans rfl; have hcz40_2 : w14.cell? ⟨gb129,2,none⟩ = some (.slice A0_2 l0_2.length c0_2) := (blk_cell BK129.out 2).trans rfl; have hfz40_0 := blk_frozen BK129.out 0; have hfz40_1 := blk_frozen BK129.out 1; have hfz40_2 := blk_frozen BK129.out 2) | (go_at_call 43; (with_reducible refine (spec_l5In.calls k2 _ _ l0_2 x4_2 t138 _ ?side1 ?side2 A37.out).mono ?_); (case side1 => exact Kd.C_below HR0_2.out (by repeat (first | (with_reducible first | exact HB.out | apply below_alloc | apply pw_below_drewN | apply below_drew1 | refine below_set ?_ GE129.out | refine below_set ?_ GE133.out) | exact HB.out))); (case side2 => exact HC0_2.out); rintro e w' ⟨rfl,⟨nd,rfl⟩⟩; (try first | exact ⟨rfl,_,World.drewN_drewN _ _ _⟩ | exact ⟨rfl,_,Eq.trans (World.drewN_drewN _ _ _) (congrArg (World.drewN _) (Nat.add_assoc _ _ _))⟩))))
                go_meet
                case rel => (try rw [← Nbq28.out]); exact ⟨_,(((false) != t138)),(by first | rfl | (simp; done) | (simp [*]; done)),H',⟨by have := HJ1.out; have := HK2.out; first | omega | exact Nat.le_refl _⟩,⟨by (with_reducible repeat (first | refine blk_drewN ?_ _ | refine blk_drew ?_ | refine blk_alloc ?_ _)); refine blk_far ?_ NB129_133.out _; (with_reducible repeat (first | refine blk_drewN ?_ _ | refine blk_drew ?_ | refine blk_alloc ?_ _)); refine blk_far ?_ NB129_133.out _; (with_reducible repeat (first | refine blk_drewN ?_ _ | refine blk_drew ?_ | refine blk_alloc ?_ _)); refine blk_far ?_ NB129_133.out _; (with_reducible repeat (first | refine blk_drewN ?_ _ | refine blk_drew ?_ | refine blk_alloc ?_ _)); refine blk_far ?_ NB129_133.out _; (with_reducible repeat (first | refine blk_drewN ?_ _ | refine blk_drew ?_ | refine blk_alloc ?_ _)); first | exact BK129.out | (simp only [*]; exact BK129.out)⟩,⟨by (with_reducible repeat (first | refine blk_drewN ?_ _ | refine blk_drew ?_ | refine blk_alloc ?_ _)); refine blk_put (cs := #[.int .i64 ((rd_T60 l0_1 x4_2).f0),.int .i64 ((rd_T60 l0_1 x4_2).f1),.int .i64 ((rd_T60 l0_1 x4_2).f2),.bool false]) ?_ 3 _ rfl; (with_reducible repeat (first | refine blk_drewN ?_ _ | refine blk_drew ?_ | refine blk_alloc ?_ _)); refine blk_put (cs := #[.int .i64 ((rd_T60 l0_1 x4_2).f0),.int .i64 ((rd_T60 l0_1 x4_2).f1),.int .i64 0,.bool false]) ?_ 2 _ rfl; (with_reducible repeat (first | refine blk_drewN ?_ _ | refine blk_drew ?_ | refine blk_alloc ?_ _)); refine blk_put (cs := #[.int .i64 ((rd_T60 l0_1 x4_2).f0),.int .i64 0,.int .i64 0,.bool false]) ?_ 1 _ rfl; (with_reducible repeat (first | refine blk_drewN ?_ _ | refine blk_drew ?_ | refine blk_alloc ?_ _)); refine blk_put (cs := #[.int .i64 0,.int .i64 0,.int .i64 0,.bool false]) ?_ 0 _ rfl; (with_reducible repeat (first | refine blk_drewN ?_ _ | refine blk_drew ?_ | refine blk_alloc ?_ _)); first | exact BK133.out | (simp only [*]; exact BK133.out)⟩,⟨by repeat (first | (with_reducible first | exact HB.out | apply below_alloc | apply pw_below_drewN | apply below_drew1 | refine below_set ?_ GE129.out | refine below_set ?_ GE133.out) | exact HB.out)⟩⟩
             ·rw [if_neg c24] at H
              have c24b0 : decide (0 < ((rd_T60 l0_1 x4_2).f0)) = false := decide_eq_false c24
              clear c24
              obtain ⟨bq41,hbq41⟩ : ∃ b_ : Bool,b_ = ((rd_T60 l0_1 x4_2).f3) := ⟨_,rfl⟩
              replace H : (if bq41 = true then (if ((rd_T60 l0_1 x4_2).f0) = 3 then ((spec_l5In.f k2 l0_2 x4_2).bind fun t139 => (spec_LockOk.j2 k2 x3_2 x4_2 ((bq41) != t139) a0_0 l0_1 l0_2 ((rd_T60 l0_1 x4_2).f0) ((rd_T60 l0_1 x4_2).f1) ((rd_T60 l0_1 x4_2).f2) bq41)) else (spec_LockOk.j2 k2 x3_2 x4_2 true a0_0 l0_1 l0_2 ((rd_T60 l0_1 x4_2).f0) ((rd_T60 l0_1 x4_2).f1) ((rd_T60 l0_1 x4_2).f2) bq41)) else ((spec_l5In.f k2 l0_2 x4_2).bind fun t140 => (spec_LockOk.j2 k2 x3_2 x4_2 ((bq41) != t140) a0_0 l0_1 l0_2 ((rd_T60 l0_1 x4_2).f0) ((rd_T60 l0_1 x4_2).f1) ((rd_T60 l0_1 x4_2).f2) bq41))) = some r := by rw [← hbq41] at H; exact H
              have Nbq41 := Aside0.mk hbq41
              clear hbq41
              by_cases c42 : bq41 = true
              ·subst c42
               (try rw [← Nbq41.out])
               have H1 : (if ((rd_T60 l0_1 x4_2).f0) = 3 then ((spec_l5In.f k2 l0_2 x4_2).bind fun t139 => (spec_LockOk.j2 k2 x3_2 x4_2 ((true) != t139) a0_0 l0_1 l0_2 ((rd_T60 l0_1 x4_2).f0) ((rd_T60 l0_1 x4_2).f1) ((rd_T60 l0_1 x4_2).f2) true)) else (spec_LockOk.j2 k2 x3_2 x4_2 true a0_0 l0_1 l0_2 ((rd_T60 l0_1 x4_2).f0) ((rd_T60 l0_1 x4_2).f1) ((rd_T60 l0_1 x4_2).f2) true)) = some r := by rw [if_pos rfl] at H; exact H
               clear H
               have H := H1
               clear H1
               by_cases c43 : ((rd_T60 l0_1 x4_2).f0) = 3
               ·rw [if_pos c43] at H
                have c43b0 : (((rd_T60 l0_1 x4_2).f0) == 3) = true := beq_iff_eq.mpr c43
                have c43b1 : (((rd_T60 l0_1 x4_2).f0) != 3) = false := bne_eq_false_iff_eq.mpr c43
                clear c43
                replace H := Option.bind_eq_some_iff.mp H
                obtain ⟨t139,A440,H⟩ := H
                replace H : (spec_LockOk.j2 k2 x3_2 x4_2 ((true) != t139) a0_0 l0_1 l0_2 ((rd_T60 l0_1 x4_2).f0) ((rd_T60 l0_1 x4_2).f1) ((rd_T60 l0_1 x4_2).f2) true) = some r := H
                have A44 := Aside0.mk A440
                clear A440
                have H' := Aside0.mk H
                clear H
                have hnb45 := NB133_129.out
                have hnc45 := NB129_133.out
                have hcz46_0 : w14.cell? ⟨gb133,0,none⟩ = some (.int .i64 0) := (blk_cell BK133.out 0).trans rfl
                have hcz46_1 : w14.cell? ⟨gb133,1,none⟩ = some (.int .i64 0) := (blk_cell BK133.out 1).trans rfl
                have hcz46_2 : w14.cell? ⟨gb133,2,none⟩ = some (.int .i64 0) := (blk_cell BK133.out 2).trans rfl
                have hcz46_3 : w14.cell? ⟨gb133,3,none⟩ = some (.bool false) := (blk_cell BK133.out 3).trans rfl
                have hfz46_0 := blk_frozen BK133.out 0
                have hfz46_1 := blk_frozen BK133.out 1
                have hfz46_2 := blk_frozen BK133.out 2
                have hfz46_3 := blk_frozen BK133.out 3
                go_wp2_with (first | (go_at_call 31; (with_reducible refine (spec_l6In.calls ((rd_T60 l0_1 x4_2).f0) 0 6 true _ A17.out).mono ?_); rintro e w' ⟨rfl,⟨nd,rfl⟩⟩; (try first | exact ⟨rfl,_,World.drewN_drewN _ _ _⟩ | exact ⟨rfl,_,Eq.trans (World.drewN_drewN _ _ _) (congrArg (World.drewN _) (Nat.add_assoc _ _ _))⟩)) | (go_at_call 31; (with_reducible refine (spec_l6In.calls ((rd_T60 l0_1 x4_2).f1) 0 2 true _ A19.out).mono ?_); rintro e w' ⟨rfl,⟨nd,rfl⟩⟩; (try first | exact ⟨rfl,_,World.drewN_drewN _ _ _⟩ | exact ⟨rfl,_,Eq.trans (World.drewN_drewN _ _ _) (congrArg (World.drewN _) (Nat.add_assoc _ _ _))⟩)) | (go_at_call 31; (with_reducible refine (spec_l6In.calls ((rd_T60 l0_1 x4_2).f2) 0 3 true _ A22.out).mono ?_); rintro e w' ⟨rfl,⟨nd,rfl⟩⟩; (try first | exact ⟨rfl,_,World.drewN_drewN _ _ _⟩ | exact ⟨rfl,_,Eq.trans (World.drewN_drewN _ _ _) (congrArg (World.drewN _) (Nat.add_assoc _ _ _))⟩); have hcz47_0 : w14.cell? ⟨gb129,0,none⟩ = some (.int .i64 a0_0) := (blk_cell BK129.out 0).trans rfl; have hcz47_1 : w14.cell? ⟨gb129,1,none⟩ = some (.slice (some ad132) l0_1.length c0_1) := (blk_cell BK129.out 1).trans rfl; have hcz47_2 : w14.cell? ⟨gb129,2,none⟩ = some (.slice A0_2 l0_2.length c0_2) := (blk_cell BK129.out 2).trans rfl; have hfz47_0 := blk_frozen BK129.out 0; have hfz47_1 := blk_frozen BK129.out 1; have hfz47_2 := blk_frozen BK129.out 2) | (go_at_call 43; (with_reducible refine (spec_l5In.calls k2 _ _ l0_2 x4_2 t139 _ ?side1 ?side2 A44.out).mono ?_); (case side1 => exact Kd.C_below HR0_2.out (by repeat (first | (with_reducible first | exact HB.out | apply below_alloc | apply pw_below_drewN | apply below_drew1 | refine below_set ?_ GE129.out | refine below_set ?_ GE133.out) | exact HB.out))); (case side2 => exact HC0_2.out); rintro e w' ⟨rfl,⟨nd,rfl⟩⟩; (try first | exact ⟨rfl,_,World.drewN_drewN _ _ _⟩ | exact ⟨rfl,_,Eq.trans (World.drewN_drewN _ _ _) (congrArg (World.drewN _) (Nat.add_assoc _ _ _))⟩)))
                repeat (go_quiet (first | (go_at_call 31; (with_reducible refine (spec_l6In.calls ((rd_T60 l0_1 x4_2).f0) 0 6 true _ A17.out).mono ?_); rintro e w' ⟨rfl,⟨nd,rfl⟩⟩; (try first | exact ⟨rfl,_,World.drewN_drewN _ _ _⟩ | exact ⟨rfl,_,Eq.trans (World.drewN_drewN _ _ _) (congrArg (World.drewN _) (Nat.add_assoc _ _ _))⟩)) | (go_at_call 31; (with_reducible refine (spec_l6In.calls ((rd_T60 l0_1 x4_2).f1) 0 2 true _ A19.out).mono ?_); rintro e w' ⟨rfl,⟨nd,rfl⟩⟩; (try first | exact ⟨rfl,_,World.drewN_drewN _ _ _⟩ | exact ⟨rfl,_,Eq.trans (World.drewN_drewN _ _ _) (congrArg (World.drewN _) (Nat.add_assoc _ _ _))⟩)) | (go_at_call 31; (with_reducible refine (spec_l6In.calls ((rd_T60 l0_1 x4_2).f2) 0 3 true _ A22.out).mono ?_); rintro e w' ⟨rfl,⟨nd,rfl⟩⟩; (try first | exact ⟨rfl,_,World.drewN_drewN _ _ _⟩ | exact ⟨rfl,_,Eq.trans (World.drewN_drewN _ _ _) (congrArg (World.drewN _) (Nat.add_assoc _ _ _))⟩); have hcz47_0 : w14.cell? ⟨gb129,0,none⟩ = some (.int .i64 a0_0) := (blk_cell BK129.out 0).trans rfl; have hcz47_1 : w14.cell? ⟨gb129,1,none⟩ = some (.slice (some ad132) l0_1.length c0_1) := (blk_cell BK129.out 1).trans rfl; have hcz47_2 : w14.cell? ⟨gb129,2,none⟩ = some (.slice A0_2 l0_2.length c0_2) := (blk_cell BK129.out 2).trans rfl; have hfz47_0 := blk_frozen BK129.out 0; have hfz47_1 := blk_frozen BK129.out 1; have hfz47_2 := blk_frozen BK129.out 2) | (go_at_call 43; (with_reducible refine (spec_l5In.calls k2 _ _ l0_2 x4_2 t139 _ ?side1 ?side2 A44.out).mono ?_); (case side1 => exact Kd.C_below HR0_2.out (by repeat (first | (with_reducible first | exact HB.out | apply below_alloc | apply pw_below_drewN | apply below_drew1 | refine below_set ?_ GE129.out | refine below_set ?_ GE133.out) | exact HB.out))); (case side2 => exact HC0_2.out); rintro e w' ⟨rfl,⟨nd,rfl⟩⟩; (try first | exact ⟨rfl,_,World.drewN_drewN _ _ _⟩ | exact ⟨rfl,_,Eq.trans (World.drewN_drewN _ _ _) (congrArg (World.drewN _) (Nat.add_assoc _ _ _))⟩))); try go_wp2_with (first | (go_at_call 31; (with_reducible refine (spec_l6In.calls ((rd_T60 l0_1 x4_2).f0) 0 6 true _ A17.out).mono ?_); rintro e w' ⟨rfl,⟨nd,rfl⟩⟩; (try first | exact ⟨rfl,_,World.drewN_drewN _ _ _⟩ | exact ⟨rfl,_,Eq.trans (World.drewN_drewN _ _ _) (congrArg (World.drewN _) (Nat.add_assoc _ _ _))⟩)) | (go_at_call 31; (with_reducible refine (spec_l6In.calls ((rd_T60 l0_1 x4_2).f1) 0 2 true _ A19.out).mono ?_); rintro e w' ⟨rfl,⟨nd,rfl⟩⟩; (try first | exact ⟨rfl,_,World.drewN_drewN _ _ _⟩ | exact ⟨rfl,_,Eq.trans (World.drewN_drewN _ _ _) (congrArg (World.drewN _) (Nat.add_assoc _ _ _))⟩)) | (go_at_call 31; (with_reducible refine (spec_l6In.calls ((rd_T60 l0_1 x4_2).f2) 0 3 true _ A22.out).mono ?_); rintro e w' ⟨rfl,⟨nd,rfl⟩⟩; (try first | exact ⟨rfl,_,World.drewN_drewN _ _ _⟩ | exact ⟨rfl,_,Eq.trans (World.drewN_drewN _ _ _) (congrArg (World.drewN _) (Nat.add_assoc _ _ _))⟩); have hcz47_0 : w14.cell? ⟨gb129,0,none⟩ = some (.int .i64 a0_0) := (blk_cell BK129.out 0).trans rfl; have hcz47_1 : w14.cell? ⟨gb129,1,none⟩ = some (.slice (some ad132) l0_1.length c0_1) := (blk_cell BK129.out 1).trans rfl; have hcz47_2 : w14.cell? ⟨gb129,2,none⟩ = some (.slice A0_2 l0_2.length c0_2) := (blk_cell BK129.out 2).trans rfl; have hfz47_0 := blk_frozen BK129.out 0; have hfz47_1 := blk_frozen BK129.out 1; have hfz47_2 := blk_frozen BK129.out 2) | (go_at_call 43; (with_reducible refine (spec_l5In.calls k2 _ _ l0_2 x4_2 t139 _ ?side1 ?side2 A44.out).mono ?_); (case side1 => exact Kd.C_below HR0_2.out (by repeat (first | (with_reducible first | exact HB.out | apply below_alloc | apply pw_below_drewN | apply below_drew1 | refine below_set ?_ GE129.out | refine below_set ?_ GE133.out) | exact HB.out))); (case side2 => exact HC0_2.out); rintro e w' ⟨rfl,⟨nd,rfl⟩⟩; (try first | exact ⟨rfl,_,World.drewN_drewN _ _ _⟩ | exact ⟨rfl,_,Eq.trans (World.drewN_drewN _ _ _) (congrArg (World.drewN _) (Nat.add_assoc _ _ _))⟩))))
                go_meet
                case rel => (try rw [← Nbq41.out]); exact ⟨_,(((true) != t139)),(by first | rfl | (simp; done) | (simp [*]; done)),H',⟨by have := HJ1.out; have := HK2.out; first | omega | exact Nat.le_refl _⟩,⟨by (with_reducible repeat (first | refine blk_drewN ?_ _ | refine blk_drew ?_ | refine blk_alloc ?_ _)); refine blk_far ?_ NB129_133.out _; (with_reducible repeat (first | refine blk_drewN ?_ _ | refine blk_drew ?_ | refine blk_alloc ?_ _)); refine blk_far ?_ NB129_133.out _; (with_reducible repeat (first | refine blk_drewN ?_ _ | refine blk_drew ?_ | refine blk_alloc ?_ _)); refine blk_far ?_ NB129_133.out _; (with_reducible repeat (first | refine blk_drewN ?_ _ | refine blk_drew ?_ | refine blk_alloc ?_ _)); refine blk_far ?_ NB129_133.out _; (with_reducible repeat (first | refine blk_drewN ?_ _ | refine blk_drew ?_ | refine blk_alloc ?_ _)); first | exact BK129.out | (simp only [*]; exact BK129.out)⟩,⟨by (with_reducible repeat (first | refine blk_drewN ?_ _ | refine blk_drew ?_ | refine blk_alloc ?_ _)); refine blk_put (cs := #[.int .i64 ((rd_T60 l0_1 x4_2).f0),.int .i64 ((rd_T60 l0_1 x4_2).f1),.int .i64 ((rd_T60 l0_1 x4_2).f2),.bool false]) ?_ 3 _ rfl; (with_reducible repeat (first | refine blk_drewN ?_ _ | refine blk_drew ?_ | refine blk_alloc ?_ _)); refine blk_put (cs := #[.int .i64 ((rd_T60 l0_1 x4_2).f0),.int .i64 ((rd_T60 l0_1 x4_2).f1),.int .i64 0,.bool false]) ?_ 2 _ rfl; (with_reducible repeat (first | refine blk_drewN ?_ _ | refine blk_drew ?_ | refine blk_alloc ?_ _)); refine blk_put (cs := #[.int .i64 ((rd_T60 l0_1 x4_2).f0),.int .i64 0,.int .i64 0,.bool false]) ?_ 1 _ rfl; (with_reducible repeat (first | refine blk_drewN ?_ _ | refine blk_drew ?_ | refine blk_alloc ?_ _)); refine blk_put (cs := #[.int .i64 0,.int .i64 0,.int .i64 0,.bool false]) ?_ 0 _ rfl; (with_reducible repeat (first | refine blk_drewN ?_ _ | refine blk_drew ?_ | refine blk_alloc ?_ _)); first | exact BK133.out | (simp only [*]; exact BK133.out)⟩,⟨by repeat (first | (with_reducible first | exact HB.out | apply below_alloc | apply pw_below_drewN | apply below_drew1 | refine below_set ?_ GE129.out | refine below_set ?_ GE133.out) | exact HB.out)⟩⟩
               ·rw [if_neg c43] at H
                have c43b0 : (((rd_T60 l0_1 x4_2).f0) == 3) = false := beq_eq_false_iff_ne.mpr c43
                have c43b1 : (((rd_T60 l0_1 x4_2).f0) != 3) = true := bne_iff_ne.mpr c43
                have H' := Aside0.mk H
                clear H
                have hnb48 := NB133_129.out
                have hnc48 := NB129_133.out
                have hcz49_0 : w14.cell? ⟨gb133,0,none⟩ = some (.int .i64 0) := (blk_cell BK133.out 0).trans rfl
                have hcz49_1 : w14.cell? ⟨gb133,1,none⟩ = some (.int .i64 0) := (blk_cell BK133.out 1).trans rfl
                have hcz49_2 : w14.cell? ⟨gb133,2,none⟩ = some (.int .i64 0) := (blk_cell BK133.out 2).trans rfl
                have hcz49_3 : w14.cell? ⟨gb133,3,none⟩ = some (.bool false) := (blk_cell BK133.out 3).trans rfl
                have hfz49_0 := blk_frozen BK133.out 0
                have hfz49_1 := blk_frozen BK133.out 1
                have hfz49_2 := blk_frozen BK133.out 2
                have hfz49_3 := blk_frozen BK133.out 3
                go_wp2_with (first | (go_at_call 31; (with_reducible refine (spec_l6In.calls ((rd_T60 l0_1 x4_2).f0) 0 6 true _ A17.out).mono ?_); rintro e w' ⟨rfl,⟨nd,rfl⟩⟩; (try first | exact ⟨rfl,_,World.drewN_drewN _ _ _⟩ | exact ⟨rfl,_,Eq.trans (World.drewN_drewN _ _ _) (congrArg (World.drewN _) (Nat.add_assoc _ _ _))⟩)) | (go_at_call 31; (with_reducible refine (spec_l6In.calls ((rd_T60 l0_1 x4_2).f1) 0 2 true _ A19.out).mono ?_); rintro e w' ⟨rfl,⟨nd,rfl⟩⟩; (try first | exact ⟨rfl,_,World.drewN_drewN _ _ _⟩ | exact ⟨rfl,_,Eq.trans (World.drewN_drewN _ _ _) (congrArg (World.drewN _) (Nat.add_assoc _ _ _))⟩)) | (go_at_call 31; (with_reducible refine (spec_l6In.calls ((rd_T60 l0_1 x4_2).f2) 0 3 true _ A22.out).mono ?_); rintro e w' ⟨rfl,⟨nd,rfl⟩⟩; (try first | exact ⟨rfl,_,World.drewN_drewN _ _ _⟩ | exact ⟨rfl,_,Eq.trans (World.drewN_drewN _ _ _) (congrArg (World.drewN _) (Nat.add_assoc _ _ _))⟩)))
                repeat (go_quiet (first | (go_at_call 31; (with_reducible refine (spec_l6In.calls ((rd_T60 l0_1 x4_2).f0) 0 6 true _ A17.out).mono ?_); rintro e w' ⟨rfl,⟨nd,rfl⟩⟩; (try first | exact ⟨rfl,_,World.drewN_drewN _ _ _⟩ | exact ⟨rfl,_,Eq.trans (World.drewN_drewN _ _ _) (congrArg (World.drewN _) (Nat.add_assoc _ _ _))⟩)) | (go_at_call 31; (with_reducible refine (spec_l6In.calls ((rd_T60 l0_1 x4_2).f1) 0 2 true _ A19.out).mono ?_); rintro e w' ⟨rfl,⟨nd,rfl⟩⟩; (try first | exact ⟨rfl,_,World.drewN_drewN _ _ _⟩ | exact ⟨rfl,_,Eq.trans (World.drewN_drewN _ _ _) (congrArg (World.drewN _) (Nat.add_assoc _ _ _))⟩)) | (go_at_call 31; (with_reducible refine (spec_l6In.calls ((rd_T60 l0_1 x4_2).f2) 0 3 true _ A22.out).mono ?_); rintro e w' ⟨rfl,⟨nd,rfl⟩⟩; (try first | exact ⟨rfl,_,World.drewN_drewN _ _ _⟩ | exact ⟨rfl,_,Eq.trans (World.drewN_drewN _ _ _) (congrArg (World.drewN _) (Nat.add_assoc _ _ _))⟩))); try go_wp2_with (first | (go_at_call 31; (with_reducible refine (spec_l6In.calls ((rd_T60 l0_1 x4_2).f0) 0 6 true _ A17.out).mono ?_); rintro e w' ⟨rfl,⟨nd,rfl⟩⟩; (try first | exact ⟨rfl,_,World.drewN_drewN _ _ _⟩ | exact ⟨rfl,_,Eq.trans (World.drewN_drewN _ _ _) (congrArg (World.drewN _) (Nat.add_assoc _ _ _))⟩)) | (go_at_call 31; (with_reducible refine (spec_l6In.calls ((rd_T60 l0_1 x4_2).f1) 0 2 true _ A19.out).mono ?_); rintro e w' ⟨rfl,⟨nd,rfl⟩⟩; (try first | exact ⟨rfl,_,World.drewN_drewN _ _ _⟩ | exact ⟨rfl,_,Eq.trans (World.drewN_drewN _ _ _) (congrArg (World.drewN _) (Nat.add_assoc _ _ _))⟩)) | (go_at_call 31; (with_reducible refine (spec_l6In.calls ((rd_T60 l0_1 x4_2).f2) 0 3 true _ A22.out).mono ?_); rintro e w' ⟨rfl,⟨nd,rfl⟩⟩; (try first | exact ⟨rfl,_,World.drewN_drewN _ _ _⟩ | exact ⟨rfl,_,Eq.trans (World.drewN_drewN _ _ _) (congrArg (World.drewN _) (Nat.add_assoc _ _ _))⟩))))
                go_meet
                case rel => (try rw [← Nbq41.out]); exact ⟨_,(true),(by first | rfl | (simp; done) | (simp [*]; done)),H',⟨by have := HJ1.out; have := HK2.out; first | omega | exact Nat.le_refl _⟩,⟨by (with_reducible repeat (first | refine blk_drewN ?_ _ | refine blk_drew ?_ | refine blk_alloc ?_ _)); refine blk_far ?_ NB129_133.out _; (with_reducible repeat (first | refine blk_drewN ?_ _ | refine blk_drew ?_ | refine blk_alloc ?_ _)); refine blk_far ?_ NB129_133.out _; (with_reducible repeat (first | refine blk_drewN ?_ _ | refine blk_drew ?_ | refine blk_alloc ?_ _)); refine blk_far ?_ NB129_133.out _; (with_reducible repeat (first | refine blk_drewN ?_ _ | refine blk_drew ?_ | refine blk_alloc ?_ _)); refine blk_far ?_ NB129_133.out _; (with_reducible repeat (first | refine blk_drewN ?_ _ | refine blk_drew ?_ | refine blk_alloc ?_ _)); first | exact BK129.out | (simp only [*]; exact BK129.out)⟩,⟨by (with_reducible repeat (first | refine blk_drewN ?_ _ | refine blk_drew ?_ | refine blk_alloc ?_ _)); refine blk_put (cs := #[.int .i64 ((rd_T60 l0_1 x4_2).f0),.int .i64 ((rd_T60 l0_1 x4_2).f1),.int .i64 ((rd_T60 l0_1 x4_2).f2),.bool false]) ?_ 3 _ rfl; (with_reducible repeat (first | refine blk_drewN ?_ _ | refine blk_drew ?_ | refine blk_alloc ?_ _)); refine blk_put (cs := #[.int .i64 ((rd_T60 l0_1 x4_2).f0),.int .i64 ((rd_T60 l0_1 x4_2).f1),.int .i64 0,.bool false]) ?_ 2 _ rfl; (with_reducible repeat (first | refine blk_drewN ?_ _ | refine blk_drew ?_ | refine blk_alloc ?_ _)); refine blk_put (cs := #[.int .i64 ((rd_T60 l0_1 x4_2).f0),.int .i64 0,.int .i64 0,.bool false]) ?_ 1 _ rfl; (with_reducible repeat (first | refine blk_drewN ?_ _ | refine blk_drew ?_ | refine blk_alloc ?_ _)); refine blk_put (cs := #[.int .i64 0,.int .i64 0,.int .i64 0,.bool false]) ?_ 0 _ rfl; (with_reducible repeat (first | refine blk_drewN ?_ _ | refine blk_drew ?_ | refine blk_alloc ?_ _)); first | exact BK133.out | (simp only [*]; exact BK133.out)⟩,⟨by repeat (first | (with_reducible first | exact HB.out | apply below_alloc | apply pw_below_drewN | apply below_drew1 | refine below_set ?_ GE129.out | refine below_set ?_ GE133.out) | exact HB.out)⟩⟩
              ·replace c42 := Bool.eq_false_iff.mpr c42
               subst c42
               (try rw [← Nbq41.out])
               have H1 : ((spec_l5In.f k2 l0_2 x4_2).bind fun t140 => (spec_LockOk.j2 k2 x3_2 x4_2 ((false) != t140) a0_0 l0_1 l0_2 ((rd_T60 l0_1 x4_2).f0) ((rd_T60 l0_1 x4_2).f1) ((rd_T60 l0_1 x4_2).f2) false)) = some r := by rw [if_neg (show ¬ (false = true) by decide)] at H; exact H
               clear H
               have H := H1
               clear H1
               replace H := Option.bind_eq_some_iff.mp H
               obtain ⟨t140,A500,H⟩ := H
               replace H : (spec_LockOk.j2 k2 x3_2 x4_2 ((false) != t140) a0_0 l0_1 l0_2 ((rd_T60 l0_1 x4_2).f0) ((rd_T60 l0_1 x4_2).f1) ((rd_T60 l0_1 x4_2).f2) false) = some r := H
               have A50 := Aside0.mk A500
               clear A500
               have H' := Aside0.mk H
               clear H
               have hnb51 := NB133_129.out
               have hnc51 := NB129_133.out
               have hcz52_0 : w14.cell? ⟨gb133,0,none⟩ = some (.int .i64 0) := (blk_cell BK133.out 0).trans rfl
               have hcz52_1 : w14.cell? ⟨gb133,1,none⟩ = some (.int .i64 0) := (blk_cell BK133.out 1).trans rfl
               have hcz52_2 : w14.cell? ⟨gb133,2,none⟩ = some (.int .i64 0) := (blk_cell BK133.out 2).trans rfl
               have hcz52_3 : w14.cell? ⟨gb133,3,none⟩ = some (.bool false) := (blk_cell BK133.out 3).trans rfl
               have hfz52_0 := blk_frozen BK133.out 0
               have hfz52_1 := blk_frozen BK133.out 1
               have hfz52_2 := blk_frozen BK133.out 2
               have hfz52_3 := blk_frozen BK133.out 3
               go_wp2_with (first | (go_at_call 31; (with_reducible refine (spec_l6In.calls ((rd_T60 l0_1 x4_2).f0) 0 6 true _ A17.out).mono ?_); rintro e w' ⟨rfl,⟨nd,rfl⟩⟩; (try first | exact ⟨rfl,_,World.drewN_drewN _ _ _⟩ | exact ⟨rfl,_,Eq.trans (World.drewN_drewN _ _ _) (congrArg (World.drewN _) (Nat.add_assoc _ _ _))⟩)) | (go_at_call 31; (with_reducible refine (spec_l6In.calls ((rd_T60 l0_1 x4_2).f1) 0 2 true _ A19.out).mono ?_); rintro e w' ⟨rfl,⟨nd,rfl⟩⟩; (try first | exact ⟨rfl,_,World.drewN_drewN _ _ _⟩ | exact ⟨rfl,_,Eq.trans (World.drewN_drewN _ _ _) (congrArg (World.drewN _) (Nat.add_assoc _ _ _))⟩)) | (go_at_call 31; (with_reducible refine (spec_l6In.calls ((rd_T60 l0_1 x4_2).f2) 0 3 true _ A22.out).mono ?_); rintro e w' ⟨rfl,⟨nd,rfl⟩⟩; (try first | exact ⟨rfl,_,World.drewN_drewN _ _ _⟩ | exact ⟨rfl,_,Eq.trans (World.drewN_drewN _ _ _) (congrArg (World.drewN _) (Nat.add_assoc _ _ _))⟩); have hcz53_0 : w14.cell? ⟨gb129,0,none⟩ = some (.int .i64 a0_0) := (blk_cell BK129.out 0).trans rfl; have hcz53_1 : w14.cell? ⟨gb129,1,none⟩ = some (.slice (some ad132) l0_1.length c0_1) := (blk_cell BK129.out 1).trans rfl; have hcz53_2 : w14.cell? ⟨gb129,2,none⟩ = some (.slice A0_2 l0_2.length c0_2) := (blk_cell BK129.out 2).trans rfl; have hfz53_0 := blk_frozen BK129.out 0; have hfz53_1 := blk_frozen BK129.out 1; have hfz53_2 := blk_frozen BK129.out 2) | (go_at_call 43; (with_reducible refine (spec_l5In.calls k2 _ _ l0_2 x4_2 t140 _ ?side1 ?side2 A50.out).mono ?_); (case side1 => exact Kd.C_below HR0_2.out (by repeat (first | (with_reducible first | exact HB.out | apply below_alloc | apply pw_below_drewN | apply below_drew1 | refine below_set ?_ GE129.out | refine below_set ?_ GE133.out) | exact HB.out))); (case side2 => exact HC0_2.out); rintro e w' ⟨rfl,⟨nd,rfl⟩⟩; (try first | exact ⟨rfl,_,World.drewN_drewN _ _ _⟩ | exact ⟨rfl,_,Eq.trans (World.drewN_drewN _ _ _) (congrArg (World.drewN _) (Nat.add_assoc _ _ _))⟩)))
               repeat (go_quiet (first | (go_at_call 31; (with_reducible refine (spec_l6In.calls ((rd_T60 l0_1 x4_2).f0) 0 6 true _ A17.out).mono ?_); rintro e w' ⟨rfl,⟨nd,rfl⟩⟩; (try first | exact ⟨rfl,_,World.drewN_drewN _ _ _⟩ | exact ⟨rfl,_,Eq.trans (World.drewN_drewN _ _ _) (congrArg (World.drewN _) (Nat.add_assoc _ _ _))⟩)) | (go_at_call 31; (with_reducible refine (spec_l6In.calls ((rd_T60 l0_1 x4_2).f1) 0 2 true _ A19.out).mono ?_); rintro e w' ⟨rfl,⟨nd,rfl⟩⟩; (try first | exact ⟨rfl,_,World.drewN_drewN _ _ _⟩ | exact ⟨rfl,_,Eq.trans (World.drewN_drewN _ _ _) (congrArg (World.drewN _) (Nat.add_assoc _ _ _))⟩)) | (go_at_call 31; (with_reducible refine (spec_l6In.calls ((rd_T60 l0_1 x4_2).f2) 0 3 true _ A22.out).mono ?_); rintro e w' ⟨rfl,⟨nd,rfl⟩⟩; (try first | exact ⟨rfl,_,World.drewN_drewN _ _ _⟩ | exact ⟨rfl,_,Eq.trans (World.drewN_drewN _ _ _) (congrArg (World.drewN _) (Nat.add_assoc _ _ _))⟩); have hcz53_0 : w14.cell? ⟨gb129,0,none⟩ = some (.int .i64 a0_0) := (blk_cell BK129.out 0).trans rfl; have hcz53_1 : w14.cell? ⟨gb129,1,none⟩ = some (.slice (some ad132) l0_1.length c0_1) := (blk_cell BK129.out 1).trans rfl; have hcz53_2 : w14.cell? ⟨gb129,2,none⟩ = some (.slice A0_2 l0_2.length c0_2) := (blk_cell BK129.out 2).trans rfl; have hfz53_0 := blk_frozen BK129.out 0; have hfz53_1 := blk_frozen BK129.out 1; have hfz53_2 := blk_frozen BK129.out 2) | (go_at_call 43; (with_reducible refine (spec_l5In.calls k2 _ _ l0_2 x4_2 t140 _ ?side1 ?side2 A50.out).mono ?_); (case side1 => exact Kd.C_below HR0_2.out (by repeat (first | (with_reducible first | exact HB.out | apply below_alloc | apply pw_below_drewN | apply below_drew1 | refine below_set ?_ GE129.out | refine below_set ?_ GE133.out) | exact HB.out))); (case side2 => exact HC0_2.out); rintro e w' ⟨rfl,⟨nd,rfl⟩⟩; (try first | exact ⟨rfl,_,World.drewN_drewN _ _ _⟩ | exact ⟨rfl,_,Eq.trans (World.drewN_drewN _ _ _) (congrArg (World.drewN _) (Nat.add_assoc _ _ _))⟩))); try go_wp2_with (first | (go_at_call 31; (with_reducible refine (spec_l6In.calls ((rd_T60 l0_1 x4_2).f0) 0 6 true _ A17.out).mono ?_); rintro e w' ⟨rfl,⟨nd,rfl⟩⟩; (try first | exact ⟨rfl,_,World.drewN_drewN _ _ _⟩ | exact ⟨rfl,_,Eq.trans (World.drewN_drewN _ _ _) (congrArg (World.drewN _) (Nat.add_assoc _ _ _))⟩)) | (go_at_call 31; (with_reducible refine (spec_l6In.calls ((rd_T60 l0_1 x4_2).f1) 0 2 true _ A19.out).mono ?_); rintro e w' ⟨rfl,⟨nd,rfl⟩⟩; (try first | exact ⟨rfl,_,World.drewN_drewN _ _ _⟩ | exact ⟨rfl,_,Eq.trans (World.drewN_drewN _ _ _) (congrArg (World.drewN _) (Nat.add_assoc _ _ _))⟩)) | (go_at_call 31; (with_reducible refine (spec_l6In.calls ((rd_T60 l0_1 x4_2).f2) 0 3 true _ A22.out).mono ?_); rintro e w' ⟨rfl,⟨nd,rfl⟩⟩; (try first | exact ⟨rfl,_,World.drewN_drewN _ _ _⟩ | exact ⟨rfl,_,Eq.trans (World.drewN_drewN _ _ _) (congrArg (World.drewN _) (Nat.add_assoc _ _ _))⟩); have hcz53_0 : w14.cell? ⟨gb129,0,none⟩ = some (.int .i64 a0_0) := (blk_cell BK129.out 0).trans rfl; have hcz53_1 : w14.cell? ⟨gb129,1,none⟩ = some (.slice (some ad132) l0_1.length c0_1) := (blk_cell BK129.out 1).trans rfl; have hcz53_2 : w14.cell? ⟨gb129,2,none⟩ = some (.slice A0_2 l0_2.length c0_2) := (blk_cell BK129.out 2).trans rfl; have hfz53_0 := blk_frozen BK129.out 0; have hfz53_1 := blk_frozen BK129.out 1; have hfz53_2 := blk_frozen BK129.out 2) | (go_at_call 43; (with_reducible refine (spec_l5In.calls k2 _ _ l0_2 x4_2 t140 _ ?side1 ?side2 A50.out).mono ?_); (case side1 => exact Kd.C_below HR0_2.out (by repeat (first | (with_reducible first | exact HB.out | apply below_alloc | apply pw_below_drewN | apply below_drew1 | refine below_set ?_ GE129.out | refine below_set ?_ GE133.out) | exact HB.out))); (case side2 => exact HC0_2.out); rintro e w' ⟨rfl,⟨nd,rfl⟩⟩; (try first | exact ⟨rfl,_,World.drewN_drewN _ _ _⟩ | exact ⟨rfl,_,Eq.trans (World.drewN_drewN _ _ _) (congrArg (World.drewN _) (Nat.add_assoc _ _ _))⟩))))
               go_meet
               case rel => (try rw [← Nbq41.out]); exact ⟨_,(((false) != t140)),(by first | rfl | (simp; done) | (simp [*]; done)),H',⟨by have := HJ1.out; have := HK2.out; first | omega | exact Nat.le_refl _⟩,⟨by (with_reducible repeat (first | refine blk_drewN ?_ _ | refine blk_drew ?_ | refine blk_alloc ?_ _)); refine blk_far ?_ NB129_133.out _; (with_reducible repeat (first | refine blk_drewN ?_ _ | refine blk_drew ?_ | refine blk_alloc ?_ _)); refine blk_far ?_ NB129_133.out _; (with_reducible repeat (first | refine blk_drewN ?_ _ | refine blk_drew ?_ | refine blk_alloc ?_ _)); refine blk_far ?_ NB129_133.out _; (with_reducible repeat (first | refine blk_drewN ?_ _ | refine blk_drew ?_ | refine blk_alloc ?_ _)); refine blk_far ?_ NB129_133.out _; (with_reducible repeat (first | refine blk_drewN ?_ _ | refine blk_drew ?_ | refine blk_alloc ?_ _)); first | exact BK129.out | (simp only [*]; exact BK129.out)⟩,⟨by (with_reducible repeat (first | refine blk_drewN ?_ _ | refine blk_drew ?_ | refine blk_alloc ?_ _)); refine blk_put (cs := #[.int .i64 ((rd_T60 l0_1 x4_2).f0),.int .i64 ((rd_T60 l0_1 x4_2).f1),.int .i64 ((rd_T60 l0_1 x4_2).f2),.bool false]) ?_ 3 _ rfl; (with_reducible repeat (first | refine blk_drewN ?_ _ | refine blk_drew ?_ | refine blk_alloc ?_ _)); refine blk_put (cs := #[.int .i64 ((rd_T60 l0_1 x4_2).f0),.int .i64 ((rd_T60 l0_1 x4_2).f1),.int .i64 0,.bool false]) ?_ 2 _ rfl; (with_reducible repeat (first | refine blk_drewN ?_ _ | refine blk_drew ?_ | refine blk_alloc ?_ _)); refine blk_put (cs := #[.int .i64 ((rd_T60 l0_1 x4_2).f0),.int .i64 0,.int .i64 0,.bool false]) ?_ 1 _ rfl; (with_reducible repeat (first | refine blk_drewN ?_ _ | refine blk_drew ?_ | refine blk_alloc ?_ _)); refine blk_put (cs := #[.int .i64 0,.int .i64 0,.int .i64 0,.bool false]) ?_ 0 _ rfl; (with_reducible repeat (first | refine blk_drewN ?_ _ | refine blk_drew ?_ | refine blk_alloc ?_ _)); first | exact BK133.out | (simp only [*]; exact BK133.out)⟩,⟨by repeat (first | (with_reducible first | exact HB.out | apply below_alloc | apply pw_below_drewN | apply below_drew1 | refine below_set ?_ GE129.out | refine below_set ?_ GE133.out) | exact HB.out)⟩⟩
            ·replace c23 := Bool.eq_false_iff.mpr c23
             subst c23
             have H1 : (spec_LockOk.j2 k2 x3_2 x4_2 true a0_0 l0_1 l0_2 ((rd_T60 l0_1 x4_2).f0) ((rd_T60 l0_1 x4_2).f1) ((rd_T60 l0_1 x4_2).f2) ((rd_T60 l0_1 x4_2).f3)) = some r := by rw [if_neg (show ¬ (false = true) by decide)] at H; exact H
             clear H
             have H := H1
             clear H1
             have H' := Aside0.mk H
             clear H
             have hnb54 := NB133_129.out
             have hnc54 := NB129_133.out
             have hcz55_0 : w14.cell? ⟨gb133,0,none⟩ = some (.int .i64 0) := (blk_cell BK133.out 0).trans rfl
             have hcz55_1 : w14.cell? ⟨gb133,1,none⟩ = some (.int .i64 0) := (blk_cell BK133.out 1).trans rfl
             have hcz55_2 : w14.cell? ⟨gb133,2,none⟩ = some (.int .i64 0) := (blk_cell BK133.out 2).trans rfl
             have hcz55_3 : w14.cell? ⟨gb133,3,none⟩ = some (.bool false) := (blk_cell BK133.out 3).trans rfl
             have hfz55_0 := blk_frozen BK133.out 0
             have hfz55_1 := blk_frozen BK133.out 1
             have hfz55_2 := blk_frozen BK133.out 2
             have hfz55_3 := blk_frozen BK133.out 3
             go_wp2_with (first | (go_at_call 31; (with_reducible refine (spec_l6In.calls ((rd_T60 l0_1 x4_2).f0) 0 6 true _ A17.out).mono ?_); rintro e w' ⟨rfl,⟨nd,rfl⟩⟩; (try first | exact ⟨rfl,_,World.drewN_drewN _ _ _⟩ | exact ⟨rfl,_,Eq.trans (World.drewN_drewN _ _ _) (congrArg (World.drewN _) (Nat.add_assoc _ _ _))⟩)) | (go_at_call 31; (with_reducible refine (spec_l6In.calls ((rd_T60 l0_1 x4_2).f1) 0 2 true _ A19.out).mono ?_); rintro e w' ⟨rfl,⟨nd,rfl⟩⟩; (try first | exact ⟨rfl,_,World.drewN_drewN _ _ _⟩ | exact ⟨rfl,_,Eq.trans (World.drewN_drewN _ _ _) (congrArg (World.drewN _) (Nat.add_assoc _ _ _))⟩)) | (go_at_call 31; (with_reducible refine (spec_l6In.calls ((rd_T60 l0_1 x4_2).f2) 0 3 false _ A22.out).mono ?_); rintro e w' ⟨rfl,⟨nd,rfl⟩⟩; (try first | exact ⟨rfl,_,World.drewN_drewN _ _ _⟩ | exact ⟨rfl,_,Eq.trans (World.drewN_drewN _ _ _) (congrArg (World.drewN _) (Nat.add_assoc _ _ _))⟩)))
             repeat (go_quiet (first | (go_at_call 31; (with_reducible refine (spec_l6In.calls ((rd_T60 l0_1 x4_2).f0) 0 6 true _ A17.out).mono ?_); rintro e w' ⟨rfl,⟨nd,rfl⟩⟩; (try first | exact ⟨rfl,_,World.drewN_drewN _ _ _⟩ | exact ⟨rfl,_,Eq.trans (World.drewN_drewN _ _ _) (congrArg (World.drewN _) (Nat.add_assoc _ _ _))⟩)) | (go_at_call 31; (with_reducible refine (spec_l6In.calls ((rd_T60 l0_1 x4_2).f1) 0 2 true _ A19.out).mono ?_); rintro e w' ⟨rfl,⟨nd,rfl⟩⟩; (try first | exact ⟨rfl,_,World.drewN_drewN _ _ _⟩ | exact ⟨rfl,_,Eq.trans (World.drewN_drewN _ _ _) (congrArg (World.drewN _) (Nat.add_assoc _ _ _))⟩)) | (go_at_call 31; (with_reducible refine (spec_l6In.calls ((rd_T60 l0_1 x4_2).f2) 0 3 false _ A22.out).mono ?_); rintro e w' ⟨rfl,⟨nd,rfl⟩⟩; (try first | exact ⟨rfl,_,World.drewN_drewN _ _ _⟩ | exact ⟨rfl,_,Eq.trans (World.drewN_drewN _ _ _) (congrArg (World.drewN _) (Nat.add_assoc _ _ _))⟩))); try go_wp2_with (first | (go_at_call 31; (with_reducible refine (spec_l6In.calls ((rd_T60 l0_1 x4_2).f0) 0 6 true _ A17.out).mono ?_); rintro e w' ⟨rfl,⟨nd,rfl⟩⟩; (try first | exact ⟨rfl,_,World.drewN_drewN _ _ _⟩ | exact ⟨rfl,_,Eq.trans (World.drewN_drewN _ _ _) (congrArg (World.drewN _) (Nat.add_assoc _ _ _))⟩)) | (go_at_call 31; (with_reducible refine (spec_l6In.calls ((rd_T60 l0_1 x4_2).f1) 0 2 true _ A19.out).mono ?_); rintro e w' ⟨rfl,⟨nd,rfl⟩⟩; (try first | exact ⟨rfl,_,World.drewN_drewN _ _ _⟩ | exact ⟨rfl,_,Eq.trans (World.drewN_drewN _ _ _) (congrArg (World.drewN _) (Nat.add_assoc _ _ _))⟩)) | (go_at_call 31; (with_reducible refine (spec_l6In.calls ((rd_T60 l0_1 x4_2).f2) 0 3 false _ A22.out).mono ?_); rintro e w' ⟨rfl,⟨nd,rfl⟩⟩; (try first | exact ⟨rfl,_,World.drewN_drewN _ _ _⟩ | exact ⟨rfl,_,Eq.trans (World.drewN_drewN _ _ _) (congrArg (World.drewN _) (Nat.add_assoc _ _ _))⟩))))
             go_meet
             case rel => exact ⟨_,(true),(by first | rfl | (simp; done) | (simp [*]; done)),H',⟨by have := HJ1.out; have := HK2.out; first | omega | exact Nat.le_refl _⟩,⟨by (with_reducible repeat (first | refine blk_drewN ?_ _ | refine blk_drew ?_ | refine blk_alloc ?_ _)); refine blk_far ?_ NB129_133.out _; (with_reducible repeat (first | refine blk_drewN ?_ _ | refine blk_drew ?_ | refine blk_alloc ?_ _)); refine blk_far ?_ NB129_133.out _; (with_reducible repeat (first | refine blk_drewN ?_ _ | refine blk_drew ?_ | refine blk_alloc ?_ _)); refine blk_far ?_ NB129_133.out _; (with_reducible repeat (first | refine blk_drewN ?_ _ | refine blk_drew ?_ | refine blk_alloc ?_ _)); refine blk_far ?_ NB129_133.out _; (with_reducible repeat (first | refine blk_drewN ?_ _ | refine blk_drew ?_ | refine blk_alloc ?_ _)); first | exact BK129.out | (simp only [*]; exact BK129.out)⟩,⟨by (with_reducible repeat (first | refine blk_drewN ?_ _ | refine blk_drew ?_ | refine blk_alloc ?_ _)); refine blk_put (cs := #[.int .i64 ((rd_T60 l0_1 x4_2).f0),.int .i64 ((rd_T60 l0_1 x4_2).f1),.int .i64 ((rd_T60 l0_1 x4_2).f2),.bool false]) ?_ 3 _ rfl; (with_reducible repeat (first | refine blk_drewN ?_ _ | refine blk_drew ?_ | refine blk_alloc ?_ _)); refine blk_put (cs := #[.int .i64 ((rd_T60 l0_1 x4_2).f0),.int .i64 ((rd_T60 l0_1 x4_2).f1),.int .i64 0,.bool false]) ?_ 2 _ rfl; (with_reducible repeat (first | refine blk_drewN ?_ _ | refine blk_drew ?_ | refine blk_alloc ?_ _)); refine blk_put (cs := #[.int .i64 ((rd_T60 l0_1 x4_2).f0),.int .i64 0,.int .i64 0,.bool false]) ?_ 1 _ rfl; (with_reducible repeat (first | refine blk_drewN ?_ _ | refine blk_drew ?_ | refine blk_alloc ?_ _)); refine blk_put (cs := #[.int .i64 0,.int .i64 0,.int .i64 0,.bool false]) ?_ 0 _ rfl; (with_reducible repeat (first | refine blk_drewN ?_ _ | refine blk_drew ?_ | refine blk_alloc ?_ _)); first | exact BK133.out | (simp only [*]; exact BK133.out)⟩,⟨by repeat (first | (with_reducible first | exact HB.out | apply below_alloc | apply pw_below_drewN | apply below_drew1 | refine below_set ?_ GE129.out | refine below_set ?_ GE133.out) | exact HB.out)⟩⟩
           ·rw [if_neg c21] at H
            have c21b0 : (((rd_T60 l0_1 x4_2).f0) == 1) = false := beq_eq_false_iff_ne.mpr c21
            have c21b1 : (((rd_T60 l0_1 x4_2).f0) != 1) = true := bne_iff_ne.mpr c21
            (first | rw [c21b0] | (simp only [i64_w,i32_w]; rw [c21b0]) | skip)
            by_cases c56 : ((rd_T60 l0_1 x4_2).f1) = 0
            ·rw [if_pos c56] at H
             have c56b0 : (((rd_T60 l0_1 x4_2).f1) == 0) = true := beq_iff_eq.mpr c56
             have c56b1 : (((rd_T60 l0_1 x4_2).f1) != 0) = false := bne_eq_false_iff_eq.mpr c56
             clear c56
             replace H := Option.bind_eq_some_iff.mp H
             obtain ⟨t141,A570,H⟩ := H
             replace H : (if t141 = true then (if ((rd_T60 l0_1 x4_2).f0) > 0 then (if ((rd_T60 l0_1 x4_2).f2) = 0 then (spec_LockOk.j2 k2 x3_2 x4_2 true a0_0 l0_1 l0_2 ((rd_T60 l0_1 x4_2).f0) ((rd_T60 l0_1 x4_2).f1) ((rd_T60 l0_1 x4_2).f2) ((rd_T60 l0_1 x4_2).f3)) else (if (rd_T60 l0_1 x4_2).f3 = true then (if ((rd_T60 l0_1 x4_2).f0) = 3 then ((spec_l5In.f k2 l0_2 x4_2).bind fun t142 => (spec_LockOk.j2 k2 x3_2 x4_2 (((rd_T60 l0_1 x4_2).f3) != t142) a0_0 l0_1 l0_2 ((rd_T60 l0_1 x4_2).f0) ((rd_T60 l0_1 x4_2).f1) ((rd_T60 l0_1 x4_2).f2) ((rd_T60 l0_1 x4_2).f3))) else (spec_LockOk.j2 k2 x3_2 x4_2 true a0_0 l0_1 l0_2 ((rd_T60 l0_1 x4_2).f0) ((rd_T60 l0_1 x4_2).f1) ((rd_T60 l0_1 x4_2).f2) ((rd_T60 l0_1 x4_2).f3))) else ((spec_l5In.f k2 l0_2 x4_2).bind fun t143 => (spec_LockOk.j2 k2 x3_2 x4_2 (((rd_T60 l0_1 x4_2).f3) != t143) a0_0 l0_1 l0_2 ((rd_T60 l0_1 x4_2).f0) ((rd_T60 l0_1 x4_2).f1) ((rd_T60 l0_1 x4_2).f2) ((rd_T60 l0_1 x4_2).f3))))) else (if (rd_T60 l0_1 x4_2).f3 = true then (if ((rd_T60 l0_1 x4_2).f0) = 3 then ((spec_l5In.f k2 l0_2 x4_2).bind fun t144 => (spec_LockOk.j2 k2 x3_2 x4_2 (((rd_T60 l0_1 x4_2).f3) != t144) a0_0 l0_1 l0_2 ((rd_T60 l0_1 x4_2).f0) ((rd_T60 l0_1 x4_2).f1) ((rd_T60 l0_1 x4_2).f2) ((rd_T60 l0_1 x4_2).f3))) else (spec_LockOk.j2 k2 x3_2 x4_2 true a0_0 l0_1 l0_2 ((rd_T60 l0_1 x4_2).f0) ((rd_T60 l0_1 x4_2).f1) ((rd_T60 l0_1 x4_2).f2) ((rd_T60 l0_1 x4_2).f3))) else ((spec_l5In.f k2 l0_2 x4_2).bind fun t145 => (spec_LockOk.j2 k2 x3_2 x4_2 (((rd_T60 l0_1 x4_2).f3) != t145) a0_0 l0_1 l0_2 ((rd_T60 l0_1 x4_2).f0) ((rd_T60 l0_1 x4_2).f1) ((rd_T60 l0_1 x4_2).f2) ((rd_T60 l0_1 x4_2).f3))))) else (spec_LockOk.j2 k2 x3_2 x4_2 true a0_0 l0_1 l0_2 ((rd_T60 l0_1 x4_2).f0) ((rd_T60 l0_1 x4_2).f1) ((rd_T60 l0_1 x4_2).f2) ((rd_T60 l0_1 x4_2).f3))) = some r := H
             have A57 := Aside0.mk A570
             clear A570
             by_cases c58 : t141 = true
             ·subst c58
              have H1 : (if ((rd_T60 l0_1 x4_2).f0) > 0 then (if ((rd_T60 l0_1 x4_2).f2) = 0 then (spec_LockOk.j2 k2 x3_2 x4_2 true a0_0 l0_1 l0_2 ((rd_T60 l0_1 x4_2).f0) ((rd_T60 l0_1 x4_2).f1) ((rd_T60 l0_1 x4_2).f2) ((rd_T60 l0_1 x4_2).f3)) else (if (rd_T60 l0_1 x4_2).f3 = true then (if ((rd_T60 l0_1 x4_2).f0) = 3 then ((spec_l5In.f k2 l0_2 x4_2).bind fun t142 => (spec_LockOk.j2 k2 x3_2 x4_2 (((rd_T60 l0_1 x4_2).f3) != t142) a0_0 l0_1 l0_2 ((rd_T60 l0_1 x4_2).f0) ((rd_T60 l0_1 x4_2).f1) ((rd_T60 l0_1 x4_2).f2) ((rd_T60 l0_1 x4_2).f3))) else (spec_LockOk.j2 k2 x3_2 x4_2 true a0_0 l0_1 l0_2 ((rd_T60 l0_1 x4_2).f0) ((rd_T60 l0_1 x4_2).f1) ((rd_T60 l0_1 x4_2).f2) ((rd_T60 l0_1 x4_2).f3))) else ((spec_l5In.f k2 l0_2 x4_2).bind fun t143 => (spec_LockOk.j2 k2 x3_2 x4_2 (((rd_T60 l0_1 x4_2).f3) != t143) a0_0 l0_1 l0_2 ((rd_T60 l0_1 x4_2).f0) ((rd_T60 l0_1 x4_2).f1) ((rd_T60 l0_1 x4_2).f2) ((rd_T60 l0_1 x4_2).f3))))) else (if (rd_T60 l0_1 x4_2).f3 = true then (if ((rd_T60 l0_1 x4_2).f0) = 3 then ((spec_l5In.f k2 l0_2 x4_2).bind fun t144 => (spec_LockOk.j2 k2 x3_2 x4_2 (((rd_T60 l0_1 x4_2).f3) != t144) a0_0 l0_1 l0_2 ((rd_T60 l0_1 x4_2).f0) ((rd_T60 l0_1 x4_2).f1) ((rd_T60 l0_1 x4_2).f2) ((rd_T60 l0_1 x4_2).f3))) else (spec_LockOk.j2 k2 x3_2 x4_2 true a0_0 l0_1 l0_2 ((rd_T60 l0_1 x4_2).f0) ((rd_T60 l0_1 x4_2).f1) ((rd_T60 l0_1 x4_2).f2) ((rd_T60 l0_1 x4_2).f3))) else ((spec_l5In.f k2 l0_2 x4_2).bind fun t145 => (spec_LockOk.j2 k2 x3_2 x4_2 (((rd_T60 l0_1 x4_2).f3) != t145) a0_0 l0_1 l0_2 ((rd_T60 l0_1 x4_2).f0) ((rd_T60 l0_1 x4_2).f1) ((rd_T60 l0_1 x4_2).f2) ((rd_T60 l0_1 x4_2).f3))))) = some r := by rw [if_pos rfl] at H; exact H
              clear H
              have H := H1
              clear H1
              by_cases c59 : ((rd_T60 l0_1 x4_2).f0) > 0
              ·rw [if_pos c59] at H
               have c59b0 : decide (0 < ((rd_T60 l0_1 x4_2).f0)) = true := decide_eq_true c59
               clear c59
               by_cases c60 : ((rd_T60 l0_1 x4_2).f2) = 0
               ·rw [if_pos c60] at H
                have c60b0 : (((rd_T60 l0_1 x4_2).f2) == 0) = true := beq_iff_eq.mpr c60
                have c60b1 : (((rd_T60 l0_1 x4_2).f2) != 0) = false := bne_eq_false_iff_eq.mpr c60
                clear c60
                have H' := Aside0.mk H
                clear H
                have hnb61 := NB133_129.out
                have hnc61 := NB129_133.out
                have hcz62_0 : w14.cell? ⟨gb133,0,none⟩ = some (.int .i64 0) := (blk_cell BK133.out 0).trans rfl
                have hcz62_1 : w14.cell? ⟨gb133,1,none⟩ = some (.int .i64 0) := (blk_cell BK133.out 1).trans rfl
                have hcz62_2 : w14.cell? ⟨gb133,2,none⟩ = some (.int .i64 0) := (blk_cell BK133.out 2).trans rfl
                have hcz62_3 : w14.cell? ⟨gb133,3,none⟩ = some (.bool false) := (blk_cell BK133.out 3).trans rfl
                have hfz62_0 := blk_frozen BK133.out 0
                have hfz62_1 := blk_frozen BK133.out 1
                have hfz62_2 := blk_frozen BK133.out 2
                have hfz62_3 := blk_frozen BK133.out 3
                go_wp2_with (first | (go_at_call 31; (with_reducible refine (spec_l6In.calls ((rd_T60 l0_1 x4_2).f0) 0 6 true _ A17.out).mono ?_); rintro e w' ⟨rfl,⟨nd,rfl⟩⟩; (try first | exact ⟨rfl,_,World.drewN_drewN _ _ _⟩ | exact ⟨rfl,_,Eq.trans (World.drewN_drewN _ _ _) (congrArg (World.drewN _) (Nat.add_assoc _ _ _))⟩)) | (go_at_call 31; (with_reducible refine (spec_l6In.calls ((rd_T60 l0_1 x4_2).f1) 0 2 true _ A19.out).mono ?_); rintro e w' ⟨rfl,⟨nd,rfl⟩⟩; (try first | exact ⟨rfl,_,World.drewN_drewN _ _ _⟩ | exact ⟨rfl,_,Eq.trans (World.drewN_drewN _ _ _) (congrArg (World.drewN _) (Nat.add_assoc _ _ _))⟩)) | (go_at_call 31; (with_reducible refine (spec_l6In.calls ((rd_T60 l0_1 x4_2).f2) 0 3 true _ A57.out).mono ?_); rintro e w' ⟨rfl,⟨nd,rfl⟩⟩; (try first | exact ⟨rfl,_,World.drewN_drewN _ _ _⟩ | exact ⟨rfl,_,Eq.trans (World.drewN_drewN _ _ _) (congrArg (World.drewN _) (Nat.add_assoc _ _ _))⟩)))
                repeat (go_quiet (first | (go_at_call 31; (with_reducible refine (spec_l6In.calls ((rd_T60 l0_1 x4_2).f0) 0 6 true _ A17.out).mono ?_); rintro e w' ⟨rfl,⟨nd,rfl⟩⟩; (try first | exact ⟨rfl,_,World.drewN_drewN _ _ _⟩ | exact ⟨rfl,_,Eq.trans (World.drewN_drewN _ _ _) (congrArg (World.drewN _) (Nat.add_assoc _ _ _))⟩)) | (go_at_call 31; (with_reducible refine (spec_l6In.calls ((rd_T60 l0_1 x4_2).f1) 0 2 true _ A19.out).mono ?_); rintro e w' ⟨rfl,⟨nd,rfl⟩⟩; (try first | exact ⟨rfl,_,World.drewN_drewN _ _ _⟩ | exact ⟨rfl,_,Eq.trans (World.drewN_drewN _ _ _) (congrArg (World.drewN _) (Nat.add_assoc _ _ _))⟩)) | (go_at_call 31; (with_reducible refine (spec_l6In.calls ((rd_T60 l0_1 x4_2).f2) 0 3 true _ A57.out).mono ?_); rintro e w' ⟨rfl,⟨nd,rfl⟩⟩; (try first | exact ⟨rfl,_,World.drewN_drewN _ _ _⟩ | exact ⟨rfl,_,Eq.trans (World.drewN_drewN _ _ _) (congrArg (World.drewN _) (Nat.add_assoc _ _ _))⟩))); try go_wp2_with (first | (go_at_call 31; (with_reducible refine (spec_l6In.calls ((rd_T60 l0_1 x4_2).f0) 0 6 true _ A17.out).mono ?_); rintro e w' ⟨rfl,⟨nd,rfl⟩⟩; (try first | exact ⟨rfl,_,World.drewN_drewN _ _ _⟩ | exact ⟨rfl,_,Eq.trans (World.drewN_drewN _ _ _) (congrArg (World.drewN _) (Nat.add_assoc _ _ _))⟩)) | (go_at_call 31; (with_reducible refine (spec_l6In.calls ((rd_T60 l0_1 x4_2).f1) 0 2 true _ A19.out).mono ?_); rintro e w' ⟨rfl,⟨nd,rfl⟩⟩; (try first | exact ⟨rfl,_,World.drewN_drewN _ _ _⟩ | exact ⟨rfl,_,Eq.trans (World.drewN_drewN _ _ _) (congrArg (World.drewN _) (Nat.add_assoc _ _ _))⟩)) | (go_at_call 31; (with_reducible refine (spec_l6In.calls ((rd_T60 l0_1 x4_2).f2) 0 3 true _ A57.out).mono ?_); rintro e w' ⟨rfl,⟨nd,rfl⟩⟩; (try first | exact ⟨rfl,_,World.drewN_drewN _ _ _⟩ | exact ⟨rfl,_,Eq.trans (World.drewN_drewN _ _ _) (congrArg (World.drewN _) (Nat.add_assoc _ _ _))⟩))))
                go_meet
                case rel => exact ⟨_,(true),(by first | rfl | (simp; done) | (simp [*]; done)),H',⟨by have := HJ1.out; have := HK2.out; first | omega | exact Nat.le_refl _⟩,⟨by (with_reducible repeat (first | refine blk_drewN ?_ _ | refine blk_drew ?_ | refine blk_alloc ?_ _)); refine blk_far ?_ NB129_133.out _; (with_reducible repeat (first | refine blk_drewN ?_ _ | refine blk_drew ?_ | refine blk_alloc ?_ _)); refine blk_far ?_ NB129_133.out _; (with_reducible repeat (first | refine blk_drewN ?_ _ | refine blk_drew ?_ | refine blk_alloc ?_ _)); refine blk_far ?_ NB129_133.out _; (with_reducible repeat (first | refine blk_drewN ?_ _ | refine blk_drew ?_ | refine blk_alloc ?_ _)); refine blk_far ?_ NB129_133.out _; (with_reducible repeat (first | refine blk_drewN ?_ _ | refine blk_drew ?_ | refine blk_alloc ?_ _)); first | exact BK129.out | (simp only [*]; exact BK129.out)⟩,⟨by (with_reducible repeat (first | refine blk_drewN ?_ _ | refine blk_drew ?_ | refine blk_alloc ?_ _)); refine blk_put (cs := #[.int .i64 ((rd_T60 l0_1 x4_2).f0),.int .i64 ((rd_T60 l0_1 x4_2).f1),.int .i64 ((rd_T60 l0_1 x4_2).f2),.bool false]) ?_ 3 _ rfl; (with_reducible repeat (first | refine blk_drewN ?_ _ | refine blk_drew ?_ | refine blk_alloc ?_ _)); refine blk_put (cs := #[.int .i64 ((rd_T60 l0_1 x4_2).f0),.int .i64 ((rd_T60 l0_1 x4_2).f1),.int .i64 0,.bool false]) ?_ 2 _ rfl; (with_reducible repeat (first | refine blk_drewN ?_ _ | refine blk_drew ?_ | refine blk_alloc ?_ _)); refine blk_put (cs := #[.int .i64 ((rd_T60 l0_1 x4_2).f0),.int .i64 0,.int .i64 0,.bool false]) ?_ 1 _ rfl; (with_reducible repeat (first | refine blk_drewN ?_ _ | refine blk_drew ?_ | refine blk_alloc ?_ _)); refine blk_put (cs := #[.int .i64 0,.int .i64 0,.int .i64 0,.bool false]) ?_ 0 _ rfl; (with_reducible repeat (first | refine blk_drewN ?_ _ | refine blk_drew ?_ | refine blk_alloc ?_ _)); first | exact BK133.out | (simp only [*]; exact BK133.out)⟩,⟨by repeat (first | (with_reducible first | exact HB.out | apply below_alloc | apply pw_below_drewN | apply below_drew1 | refine below_set ?_ GE129.out | refine below_set ?_ GE133.out) | exact HB.out)⟩⟩
               ·rw [if_neg c60] at H
                have c60b0 : (((rd_T60 l0_1 x4_2).f2) == 0) = false := beq_eq_false_iff_ne.mpr c60
                have c60b1 : (((rd_T60 l0_1 x4_2).f2) != 0) = true := bne_iff_ne.mpr c60
                obtain ⟨bq63,hbq63⟩ : ∃ b_ : Bool,b_ = ((rd_T60 l0_1 x4_2).f3) := ⟨_,rfl⟩
                replace H : (if bq63 = true then (if ((rd_T60 l0_1 x4_2).f0) = 3 then ((spec_l5In.f k2 l0_2 x4_2).bind fun t142 => (spec_LockOk.j2 k2 x3_2 x4_2 ((bq63) != t142) a0_0 l0_1 l0_2 ((rd_T60 l0_1 x4_2).f0) ((rd_T60 l0_1 x4_2).f1) ((rd_T60 l0_1 x4_2).f2) bq63)) else (spec_LockOk.j2 k2 x3_2 x4_2 true a0_0 l0_1 l0_2 ((rd_T60 l0_1 x4_2).f0) ((rd_T60 l0_1 x4_2).f1) ((rd_T60 l0_1 x4_2).f2) bq63)) else ((spec_l5In.f k2 l0_2 x4_2).bind fun t143 => (spec_LockOk.j2 k2 x3_2 x4_2 ((bq63) != t143) a0_0 l0_1 l0_2 ((rd_T60 l0_1 x4_2).f0) ((rd_T60 l0_1 x4_2).f1) ((rd_T60 l0_1 x4_2).f2) bq63))) = some r := by rw [← hbq63] at H; exact H
                have Nbq63 := Aside0.mk hbq63
                clear hbq63
                by_cases c64 : bq63 = true
                ·subst c64
                 (try rw [← Nbq63.out])
                 have H1 : (if ((rd_T60 l0_1 x4_2).f0) = 3 then ((spec_l5In.f k2 l0_2 x4_2).bind fun t142 => (spec_LockOk.j2 k2 x3_2 x4_2 ((true) != t142) a0_0 l0_1 l0_2 ((rd_T60 l0_1 x4_2).f0) ((rd_T60 l0_1 x4_2).f1) ((rd_T60 l0_1 x4_2).f2) true)) else (spec_LockOk.j2 k2 x3_2 x4_2 true a0_0 l0_1 l0_2 ((rd_T60 l0_1 x4_2).f0) ((rd_T60 l0_1 x4_2).f1) ((rd_T60 l0_1 x4_2).f2) true)) = some r := by rw [if_pos rfl] at H; exact H
                 clear H
                 have H := H1
                 clear H1
                 by_cases c65 : ((rd_T60 l0_1 x4_2).f0) = 3
                 ·rw [if_pos c65] at H
                  have c65b0 : (((rd_T60 l0_1 x4_2).f0) == 3) = true := beq_iff_eq.mpr c65
                  have c65b1 : (((rd_T60 l0_1 x4_2).f0) != 3) = false := bne_eq_false_iff_eq.mpr c65
                  clear c65
                  replace H := Option.bind_eq_some_iff.mp H
                  obtain ⟨t142,A660,H⟩ := H
                  replace H : (spec_LockOk.j2 k2 x3_2 x4_2 ((true) != t142) a0_0 l0_1 l0_2 ((rd_T60 l0_1 x4_2).f0) ((rd_T60 l0_1 x4_2).f1) ((rd_T60 l0_1 x4_2).f2) true) = some r := H
                  have A66 := Aside0.mk A660
                  clear A660
                  have H' := Aside0.mk H
                  clear H
                  have hnb67 := NB133_129.out
                  have hnc67 := NB129_133.out
                  have hcz68_0 : w14.cell? ⟨gb133,0,none⟩ = some (.int .i64 0) := (blk_cell BK133.out 0).trans rfl
                  have hcz68_1 : w14.cell? ⟨gb133,1,none⟩ = some (.int .i64 0) := (blk_cell BK133.out 1).trans rfl
                  have hcz68_2 : w14.cell? ⟨gb133,2,none⟩ = some (.int .i64 0) := (blk_cell BK133.out 2).trans rfl
                  have hcz68_3 : w14.cell? ⟨gb133,3,none⟩ = some (.bool false) := (blk_cell BK133.out 3).trans rfl
                  have hfz68_0 := blk_frozen BK133.out 0
                  have hfz68_1 := blk_frozen BK133.out 1
                  have hfz68_2 := blk_frozen BK133.out 2
                  have hfz68_3 := blk_frozen BK133.out 3
                  go_wp2_with (first | (go_at_call 31; (with_reducible refine (spec_l6In.calls ((rd_T60 l0_1 x4_2).f0) 0 6 true _ A17.out).mono ?_); rintro e w' ⟨rfl,⟨nd,rfl⟩⟩; (try first | exact ⟨rfl,_,World.drewN_drewN _ _ _⟩ | exact ⟨rfl,_,Eq.trans (World.drewN_drewN _ _ _) (congrArg (World.drewN _) (Nat.add_assoc _ _ _))⟩)) | (go_at_call 31; (with_reducible refine (spec_l6In.calls ((rd_T60 l0_1 x4_2).f1) 0 2 true _ A19.out).mono ?_); rintro e w' ⟨rfl,⟨nd,rfl⟩⟩; (try first | exact ⟨rfl,_,World.drewN_drewN _ _ _⟩ | exact ⟨rfl,_,Eq.trans (World.drewN_drewN _ _ _) (congrArg (World.drewN _) (Nat.add_assoc _ _ _))⟩)) | (go_at_call 31; (with_reducible refine (spec_l6In.calls ((rd_T60 l0_1 x4_2).f2) 0 3 true _ A57.out).mono ?_); rintro e w' ⟨rfl,⟨nd,rfl⟩⟩; (try first | exact ⟨rfl,_,World.drewN_drewN _ _ _⟩ | exact ⟨rfl,_,Eq.trans (World.drewN_drewN _ _ _) (congrArg (World.drewN _) (Nat.add_assoc _ _ _))⟩); have hcz69_0 : w14.cell? ⟨gb129,0,none⟩ = some (.int .i64 a0_0) := (blk_cell BK129.out 0).trans rfl; have hcz69_1 : w14.cell? ⟨gb129,1,none⟩ = some (.slice (some ad132) l0_1.length c0_1) := (blk_cell BK129.out 1).trans rfl; have hcz69_2 : w14.cell? ⟨gb129,2,none⟩ = some (.slice A0_2 l0_2.length c0_2) := (blk_cell BK129.out 2).trans rfl; have hfz69_0 := blk_frozen BK129.out 0; have hfz69_1 := blk_frozen BK129.out 1; have hfz69_2 := blk_frozen BK129.out 2) | (go_at_call 43; (with_reducible refine (spec_l5In.calls k2 _ _ l0_2 x4_2 t142 _ ?side1 ?side2 A66.out).mono ?_); (case side1 => exact Kd.C_below HR0_2.out (by repeat (first | (with_reducible first | exact HB.out | apply below_alloc | apply pw_below_drewN | apply below_drew1 | refine below_set ?_ GE129.out | refine below_set ?_ GE133.out) | exact HB.out))); (case side2 => exact HC0_2.out); rintro e w' ⟨rfl,⟨nd,rfl⟩⟩; (try first | exact ⟨rfl,_,World.drewN_drewN _ _ _⟩ | exact ⟨rfl,_,Eq.trans (World.drewN_drewN _ _ _) (congrArg (World.drewN _) (Nat.add_assoc _ _ _))⟩)))
                  repeat (go_quiet (first | (go_at_call 31; (with_reducible refine (spec_l6In.calls ((rd_T60 l0_1 x4_2).f0) 0 6 true _ A17.out).mono ?_); rintro e w' ⟨rfl,⟨nd,rfl⟩⟩; (try first | exact ⟨rfl,_,World.drewN_drewN _ _ _⟩ | exact ⟨rfl,_,Eq.trans (World.drewN_drewN _ _ _) (congrArg (World.drewN _) (Nat.add_assoc _ _ _))⟩)) | (go_at_call 31; (with_reducible refine (spec_l6In.calls ((rd_T60 l0_1 x4_2).f1) 0 2 true _ A19.out).mono ?_); rintro e w' ⟨rfl,⟨nd,rfl⟩⟩; (try first | exact ⟨rfl,_,World.drewN_drewN _ _ _⟩ | exact ⟨rfl,_,Eq.trans (World.drewN_drewN _ _ _) (congrArg (World.drewN _) (Nat.add_assoc _ _ _))⟩)) | (go_at_call 31; (with_reducible refine (spec_l6In.calls ((rd_T60 l0_1 x4_2).f2) 0 3 true _ A57.out).mono ?_); rintro e w' ⟨rfl,⟨nd,rfl⟩⟩; (try first | exact ⟨rfl,_,World.drewN_drewN _ _ _⟩ | exact ⟨rfl,_,Eq.trans (World.drewN_drewN _ _ _) (congrArg (World.drewN _) (Nat.add_assoc _ _ _))⟩); have hcz69_0 : w14.cell? ⟨gb129,0,none⟩ = some (.int .i64 a0_0) := (blk_cell BK129.out 0).trans rfl; have hcz69_1 : w14.cell? ⟨gb129,1,none⟩ = some (.slice (some ad132) l0_1.length c0_1) := (blk_cell BK129.out 1).trans rfl; have hcz69_2 : w14.cell? ⟨gb129,2,none⟩ = some (.slice A0_2 l0_2.length c0_2) := (blk_cell BK129.out 2).trans rfl; have hfz69_0 := blk_frozen BK129.out 0; have hfz69_1 := blk_frozen BK129.out 1; have hfz69_2 := blk_frozen BK129.out 2) | (go_at_call 43; (with_reducible refine (spec_l5In.calls k2 _ _ l0_2 x4_2 t142 _ ?side1 ?side2 A66.out).mono ?_); (case side1 => exact Kd.C_below HR0_2.out (by repeat (first | (with_reducible first | exact HB.out | apply below_alloc | apply pw_below_drewN | apply below_drew1 | refine below_set ?_ GE129.out | refine below_set ?_ GE133.out) | exact HB.out))); (case side2 => exact HC0_2.out); rintro e w' ⟨rfl,⟨nd,rfl⟩⟩; (try first | exact ⟨rfl,_,World.drewN_drewN _ _ _⟩ | exact ⟨rfl,_,Eq.trans (World.drewN_drewN _ _ _) (congrArg (World.drewN _) (Nat.add_assoc _ _ _))⟩))); try go_wp2_with (first | (go_at_call 31; (with_reducible refine (spec_l6In.calls ((rd_T60 l0_1 x4_2).f0) 0 6 true _ A17.out).mono ?_); rintro e w' ⟨rfl,⟨nd,rfl⟩⟩; (try first | exact ⟨rfl,_,World.drewN_drewN _ _ _⟩ | exact ⟨rfl,_,Eq.trans (World.drewN_drewN _ _ _) (congrArg (World.drewN _) (Nat.add_assoc _ _ _))⟩)) | (go_at_call 31; (with_reducible refine (spec_l6In.calls ((rd_T60 l0_1 x4_2).f1) 0 2 true _ A19.out).mono ?_); rintro e w' ⟨rfl,⟨nd,rfl⟩⟩; (try first | exact ⟨rfl,_,World.drewN_drewN _ _ _⟩ | exact ⟨rfl,_,Eq.trans (World.drewN_drewN _ _ _) (congrArg (World.drewN _) (Nat.add_assoc _ _ _))⟩)) | (go_at_call 31; (with_reducible refine (spec_l6In.calls ((rd_T60 l0_1 x4_2).f2) 0 3 true _ A57.out).mono ?_); rintro e w' ⟨rfl,⟨nd,rfl⟩⟩; (try first | exact ⟨rfl,_,World.drewN_drewN _ _ _⟩ | exact ⟨rfl,_,Eq.trans (World.drewN_drewN _ _ _) (congrArg (World.drewN _) (Nat.add_assoc _ _ _))⟩); have hcz69_0 : w14.cell? ⟨gb129,0,none⟩ = some (.int .i64 a0_0) := (blk_cell BK129.out 0).trans rfl; have hcz69_1 : w14.cell? ⟨gb129,1,none⟩ = some (.slice (some ad132) l0_1.length c0_1) := (blk_cell BK129.out 1).trans rfl; have hcz69_2 : w14.cell? ⟨gb129,2,none⟩ = some (.slice A0_2 l0_2.length c0_2) := (blk_cell BK129.out 2).trans rfl; have hfz69_0 := blk_frozen BK129.out 0; have hfz69_1 := blk_frozen BK129.out 1; have hfz69_2 := blk_frozen BK129.out 2) | (go_at_call 43; (with_reducible refine (spec_l5In.calls k2 _ _ l0_2 x4_2 t142 _ ?side1 ?side2 A66.out).mono ?_); (case side1 => exact Kd.C_below HR0_2.out (by repeat (first | (with_reducible first | exact HB.out | apply below_alloc | apply pw_below_drewN | apply below_drew1 | refine below_set ?_ GE129.out | refine below_set ?_ GE133.out) | exact HB.out))); (case side2 => exact HC0_2.out); rintro e w' ⟨rfl,⟨nd,rfl⟩⟩; (try first | exact ⟨rfl,_,World.drewN_drewN _ _ _⟩ | exact ⟨rfl,_,Eq.trans (World.drewN_drewN _ _ _) (congrArg (World.drewN _) (Nat.add_assoc _ _ _))⟩))))
                  go_meet
                  case rel => (try rw [← Nbq63.out]); exact ⟨_,(((true) != t142)),(by first | rfl | (simp; done) | (simp [*]; done)),H',⟨by have := HJ1.out; have := HK2.out; first | omega | exact Nat.le_refl _⟩,⟨by (with_reducible repeat (first | refine blk_drewN ?_ _ | refine blk_drew ?_ | refine blk_alloc ?_ _)); refine blk_far ?_ NB129_133.out _; (with_reducible repeat (first | refine blk_drewN ?_ _ | refine blk_drew ?_ | refine blk_alloc ?_ _)); refine blk_far ?_ NB129_133.out _; (with_reducible repeat (first | refine blk_drewN ?_ _ | refine blk_drew ?_ | refine blk_alloc ?_ _)); refine blk_far ?_ NB129_133.out _; (with_reducible repeat (first | refine blk_drewN ?_ _ | refine blk_drew ?_ | refine blk_alloc ?_ _)); refine blk_far ?_ NB129_133.out _; (with_reducible repeat (first | refine blk_drewN ?_ _ | refine blk_drew ?_ | refine blk_alloc ?_ _)); first | exact BK129.out | (simp only [*]; exact BK129.out)⟩,⟨by (with_reducible repeat (first | refine blk_drewN ?_ _ | refine blk_drew ?_ | refine blk_alloc ?_ _)); refine blk_put (cs := #[.int .i64 ((rd_T60 l0_1 x4_2).f0),.int .i64 ((rd_T60 l0_1 x4_2).f1),.int .i64 ((rd_T60 l0_1 x4_2).f2),.bool false]) ?_ 3 _ rfl; (with_reducible repeat (first | refine blk_drewN ?_ _ | refine blk_drew ?_ | refine blk_alloc ?_ _)); refine blk_put (cs := #[.int .i64 ((rd_T60 l0_1 x4_2).f0),.int .i64 ((rd_T60 l0_1 x4_2).f1),.int .i64 0,.bool false]) ?_ 2 _ rfl; (with_reducible repeat (first | refine blk_drewN ?_ _ | refine blk_drew ?_ | refine blk_alloc ?_ _)); refine blk_put (cs := #[.int .i64 ((rd_T60 l0_1 x4_2).f0),.int .i64 0,.int .i64 0,.bool false]) ?_ 1 _ rfl; (with_reducible repeat (first | refine blk_drewN ?_ _ | refine blk_drew ?_ | refine blk_alloc ?_ _)); refine blk_put (cs := #[.int .i64 0,.int .i64 0,.int .i64 0,.bool false]) ?_ 0 _ rfl; (with_reducible repeat (first | refine blk_drewN ?_ _ | refine blk_drew ?_ | refine blk_alloc ?_ _)); first | exact BK133.out | (simp only [*]; exact BK133.out)⟩,⟨by repeat (first | (with_reducible first | exact HB.out | apply below_alloc | apply pw_below_drewN | apply below_drew1 | refine below_set ?_ GE129.out | refine below_set ?_ GE133.out) | exact HB.out)⟩⟩
                 ·rw [if_neg c65] at H
                  have c65b0 : (((rd_T60 l0_1 x4_2).f0) == 3) = false := beq_eq_false_iff_ne.mpr c65
                  have c65b1 : (((rd_T60 l0_1 x4_2).f0) != 3) = true := bne_iff_ne.mpr c65
                  have H' := Aside0.mk H
                  clear H
                  have hnb70 := NB133_129.out
                  have hnc70 := NB129_133.out
                  have hcz71_0 : w14.cell? ⟨gb133,0,none⟩ = some (.int .i64 0) := (blk_cell BK133.out 0).trans rfl
                  have hcz71_1 : w14.cell? ⟨gb133,1,none⟩ = some (.int .i64 0) := (blk_cell BK133.out 1).trans rfl
                  have hcz71_2 : w14.cell? ⟨gb133,2,none⟩ = some (.int .i64 0) := (blk_cell BK133.out 2).trans rfl
                  have hcz71_3 : w14.cell? ⟨gb133,3,none⟩ = some (.bool false) := (blk_cell BK133.out 3).trans rfl
                  have hfz71_0 := blk_frozen BK133.out 0
                  have hfz71_1 := blk_frozen BK133.out 1
                  have hfz71_2 := blk_frozen BK133.out 2
                  have hfz71_3 := blk_frozen BK133.out 3
                  go_wp2_with (first | (go_at_call 31; (with_reducible refine (spec_l6In.calls ((rd_T60 l0_1 x4_2).f0) 0 6 true _ A17.out).mono ?_); rintro e w' ⟨rfl,⟨nd,rfl⟩⟩; (try first | exact ⟨rfl,_,World.drewN_drewN _ _ _⟩ | exact ⟨rfl,_,Eq.trans (World.drewN_drewN _ _ _) (congrArg (World.drewN _) (Nat.add_assoc _ _ _))⟩)) | (go_at_call 31; (with_reducible refine (spec_l6In.calls ((rd_T60 l0_1 x4_2).f1) 0 2 true _ A19.out).mono ?_); rintro e w' ⟨rfl,⟨nd,rfl⟩⟩; (try first | exact ⟨rfl,_,World.drewN_drewN _ _ _⟩ | exact ⟨rfl,_,Eq.trans (World.drewN_drewN _ _ _) (congrArg (World.drewN _) (Nat.add_assoc _ _ _))⟩)) | (go_at_call 31; (with_reducible refine (spec_l6In.calls ((rd_T60 l0_1 x4_2).f2) 0 3 true _ A57.out).mono ?_); rintro e w' ⟨rfl,⟨nd,rfl⟩⟩; (try first | exact ⟨rfl,_,World.drewN_drewN _ _ _⟩ | exact ⟨rfl,_,Eq.trans (World.drewN_drewN _ _ _) (congrArg (World.drewN _) (Nat.add_assoc _ _ _))⟩)))
                  repeat (go_quiet (first | (go_at_call 31; (with_reducible refine (spec_l6In.calls ((rd_T60 l0_1 x4_2).f0) 0 6 true _ A17.out).mono ?_); rintro e w' ⟨rfl,⟨nd,rfl⟩⟩; (try first | exact ⟨rfl,_,World.drewN_drewN _ _ _⟩ | exact ⟨rfl,_,Eq.trans (World.drewN_drewN _ _ _) (congrArg (World.drewN _) (Nat.add_assoc _ _ _))⟩)) | (go_at_call 31; (with_reducible refine (spec_l6In.calls ((rd_T60 l0_1 x4_2).f1) 0 2 true _ A19.out).mono ?_); rintro e w' ⟨rfl,⟨nd,rfl⟩⟩; (try first | exact ⟨rfl,_,World.drewN_drewN _ _ _⟩ | exact ⟨rfl,_,Eq.trans (World.drewN_drewN _ _ _) (congrArg (World.drewN _) (Nat.add_assoc _ _ _))⟩)) | (go_at_call 31; (with_reducible refine (spec_l6In.calls ((rd_T60 l0_1 x4_2).f2) 0 3 true _ A57.out).mono ?_); rintro e w' ⟨rfl,⟨nd,rfl⟩⟩; (try first | exact ⟨rfl,_,World.drewN_drewN _ _ _⟩ | exact ⟨rfl,_,Eq.trans (World.drewN_drewN _ _ _) (congrArg (World.drewN _) (Nat.add_assoc _ _ _))⟩))); try go_wp2_with (first | (go_at_call 31; (with_reducible refine (spec_l6In.calls ((rd_T60 l0_1 x4_2).f0) 0 6 true _ A17.out).mono ?_); rintro e w' ⟨rfl,⟨nd,rfl⟩⟩; (try first | exact ⟨rfl,_,World.drewN_drewN _ _ _⟩ | exact ⟨rfl,_,Eq.trans (World.drewN_drewN _ _ _) (congrArg (World.drewN _) (Nat.add_assoc _ _ _))⟩)) | (go_at_call 31; (with_reducible refine (spec_l6In.calls ((rd_T60 l0_1 x4_2).f1) 0 2 true _ A19.out).mono ?_); rintro e w' ⟨rfl,⟨nd,rfl⟩⟩; (try first | exact ⟨rfl,_,World.drewN_drewN _ _ _⟩ | exact ⟨rfl,_,Eq.trans (World.drewN_drewN _ _ _) (congrArg (World.drewN _) (Nat.add_assoc _ _ _))⟩)) | (go_at_call 31; (with_reducible refine (spec_l6In.calls ((rd_T60 l0_1 x4_2).f2) 0 3 true _ A57.out).mono ?_); rintro e w' ⟨rfl,⟨nd,rfl⟩⟩; (try first | exact ⟨rfl,_,World.drewN_drewN _ _ _⟩ | exact ⟨rfl,_,Eq.trans (World.drewN_drewN _ _ _) (congrArg (World.drewN _) (Nat.add_assoc _ _ _))⟩))))
                  go_meet
                  case rel => (try rw [← Nbq63.out]); exact ⟨_,(true),(by first | rfl | (simp; done) | (simp [*]; done)),H',⟨by have := HJ1.out; have := HK2.out; first | omega | exact Nat.le_refl _⟩,⟨by (with_reducible repeat (first | refine blk_drewN ?_ _ | refine blk_drew ?_ | refine blk_alloc ?_ _)); refine blk_far ?_ NB129_133.out _; (with_reducible repeat (first | refine blk_drewN ?_ _ | refine blk_drew ?_ | refine blk_alloc ?_ _)); refine blk_far ?_ NB129_133.out _; (with_reducible repeat (first | refine blk_drewN ?_ _ | refine blk_drew ?_ | refine blk_alloc ?_ _)); refine blk_far ?_ NB129_133.out _; (with_reducible repeat (first | refine blk_drewN ?_ _ | refine blk_drew ?_ | refine blk_alloc ?_ _)); refine blk_far ?_ NB129_133.out _; (with_reducible repeat (first | refine blk_drewN ?_ _ | refine blk_drew ?_ | refine blk_alloc ?_ _)); first | exact BK129.out | (simp only [*]; exact BK129.out)⟩,⟨by (with_reducible repeat (first | refine blk_drewN ?_ _ | refine blk_drew ?_ | refine blk_alloc ?_ _)); refine blk_put (cs := #[.int .i64 ((rd_T60 l0_1 x4_2).f0),.int .i64 ((rd_T60 l0_1 x4_2).f1),.int .i64 ((rd_T60 l0_1 x4_2).f2),.bool false]) ?_ 3 _ rfl; (with_reducible repeat (first | refine blk_drewN ?_ _ | refine blk_drew ?_ | refine blk_alloc ?_ _)); refine blk_put (cs := #[.int .i64 ((rd_T60 l0_1 x4_2).f0),.int .i64 ((rd_T60 l0_1 x4_2).f1),.int .i64 0,.bool false]) ?_ 2 _ rfl; (with_reducible repeat (first | refine blk_drewN ?_ _ | refine blk_drew ?_ | refine blk_alloc ?_ _)); refine blk_put (cs := #[.int .i64 ((rd_T60 l0_1 x4_2).f0),.int .i64 0,.int .i64 0,.bool false]) ?_ 1 _ rfl; (with_reducible repeat (first | refine blk_drewN ?_ _ | refine blk_drew ?_ | refine blk_alloc ?_ _)); refine blk_put (cs := #[.int .i64 0,.int .i64 0,.int .i64 0,.bool false]) ?_ 0 _ rfl; (with_reducible repeat (first | refine blk_drewN ?_ _ | refine blk_drew ?_ | refine blk_alloc ?_ _)); first | exact BK133.out | (simp only [*]; exact BK133.out)⟩,⟨by repeat (first | (with_reducible first | exact HB.out | apply below_alloc | apply pw_below_drewN | apply below_drew1 | refine below_set ?_ GE129.out | refine below_set ?_ GE133.out) | exact HB.out)⟩⟩
                ·replace c64 := Bool.eq_false_iff.mpr c64
                 subst c64
                 (try rw [← Nbq63.out])
                 have H1 : ((spec_l5In.f k2 l0_2 x4_2).bind fun t143 => (spec_LockOk.j2 k2 x3_2 x4_2 ((false) != t143) a0_0 l0_1 l0_2 ((rd_T60 l0_1 x4_2).f0) ((rd_T60 l0_1 x4_2).f1) ((rd_T60 l0_1 x4_2).f2) false)) = some r := by rw [if_neg (show ¬ (false = true) by decide)] at H; exact H
                 clear H
                 have H := H1
                 clear H1
                 replace H := Option.bind_eq_some_iff.mp H
                 obtain ⟨t143,A720,H⟩ := H
                 replace H : (spec_LockOk.j2 k2 x3_2 x4_2 ((false) != t143) a0_0 l0_1 l0_2 ((rd_T60 l0_1 x4_2).f0) ((rd_T60 l0_1 x4_2).f1) ((rd_T60 l0_1 x4_2).f2) false) = some r := H
                 have A72 := Aside0.mk A720
                 clear A720
                 have H' := Aside0.mk H
                 clear H
                 have hnb73 := NB133_129.out
                 have hnc73 := NB129_133.out
                 have hcz74_0 : w14.cell? ⟨gb133,0,none⟩ = some (.int .i64 0) := (blk_cell BK133.out 0).trans rfl
                 have hcz74_1 : w14.cell? ⟨gb133,1,none⟩ = some (.int .i64 0) := (blk_cell BK133.out 1).trans rfl
                 have hcz74_2 : w14.cell? ⟨gb133,2,none⟩ = some (.int .i64 0) := (blk_cell BK133.out 2).trans rfl
                 have hcz74_3 : w14.cell? ⟨gb133,3,none⟩ = some (.bool false) := (blk_cell BK133.out 3).trans rfl
                 have hfz74_0 := blk_frozen BK133.out 0
                 have hfz74_1 := blk_frozen BK133.out 1
                 have hfz74_2 := blk_frozen BK133.out 2
                 have hfz74_3 := blk_frozen BK133.out 3
                 go_wp2_with (first | (go_at_call 31; (with_reducible refine (spec_l6In.calls ((rd_T60 l0_1 x4_2).f0) 0 6 true _ A17.out).mono ?_); rintro e w' ⟨rfl,⟨nd,rfl⟩⟩; (try first | exact ⟨rfl,_,World.drewN_drewN _ _ _⟩ | exact ⟨rfl,_,Eq.trans (World.drewN_drewN _ _ _) (congrArg (World.drewN _) (Nat.add_assoc _ _ _))⟩)) | (go_at_call 31; (with_reducible refine (spec_l6In.calls ((rd_T60 l0_1 x4_2).f1) 0 2 true _ A19.out).mono ?_); rintro e w' ⟨rfl,⟨nd,rfl⟩⟩; (try first | exact ⟨rfl,_,World.drewN_drewN _ _ _⟩ | exact ⟨rfl,_,Eq.trans (World.drewN_drewN _ _ _) (congrArg (World.drewN _) (Nat.add_assoc _ _ _))⟩)) | (go_at_call 31; (with_reducible refine (spec_l6In.calls ((rd_T60 l0_1 x4_2).f2) 0 3 true _ A57.out).mono ?_); rintro e w' ⟨rfl,⟨nd,rfl⟩⟩; (try first | exact ⟨rfl,_,World.drewN_drewN _ _ _⟩ | exact ⟨rfl,_,Eq.trans (World.drewN_drewN _ _ _) (congrArg (World.drewN _) (Nat.add_assoc _ _ _))⟩); have hcz75_0 : w14.cell? ⟨gb129,0,none⟩ = some (.int .i64 a0_0) := (blk_cell BK129.out 0).trans rfl; have hcz75_1 : w14.cell? ⟨gb129,1,none⟩ = some (.slice (some ad132) l0_1.length c0_1) := (blk_cell BK129.out 1).trans rfl; have hcz75_2 : w14.cell? ⟨gb129,2,none⟩ = some (.slice A0_2 l0_2.length c0_2) := (blk_cell BK129.out 2).trans rfl; have hfz75_0 := blk_frozen BK129.out 0; have hfz75_1 := blk_frozen BK129.out 1; have hfz75_2 := blk_frozen BK129.out 2) | (go_at_call 43; (with_reducible refine (spec_l5In.calls k2 _ _ l0_2 x4_2 t143 _ ?side1 ?side2 A72.out).mono ?_); (case side1 => exact Kd.C_below HR0_2.out (by repeat (first | (with_reducible first | exact HB.out | apply below_alloc | apply pw_below_drewN | apply below_drew1 | refine below_set ?_ GE129.out | refine below_set ?_ GE133.out) | exact HB.out))); (case side2 => exact HC0_2.out); rintro e w' ⟨rfl,⟨nd,rfl⟩⟩; (try first | exact ⟨rfl,_,World.drewN_drewN _ _ _⟩ | exact ⟨rfl,_,Eq.trans (World.drewN_drewN _ _ _) (congrArg (World.drewN _) (Nat.add_assoc _ _ _))⟩)))
                 repeat (go_quiet (first | (go_at_call 31; (with_reducible refine (spec_l6In.calls ((rd_T60 l0_1 x4_2).f0) 0 6 true _ A17.out).mono ?_); rintro e w' ⟨rfl,⟨nd,rfl⟩⟩; (try first | exact ⟨rfl,_,World.drewN_drewN _ _ _⟩ | exact ⟨rfl,_,Eq.trans (World.drewN_drewN _ _ _) (congrArg (World.drewN _) (Nat.add_assoc _ _ _))⟩)) | (go_at_call 31; (with_reducible refine (spec_l6In.calls ((rd_T60 l0_1 x4_2).f1) 0 2 true _ A19.out).mono ?_); rintro e w' ⟨rfl,⟨nd,rfl⟩⟩; (try first | exact ⟨rfl,_,World.drewN_drewN _ _ _⟩ | exact ⟨rfl,_,Eq.trans (World.drewN_drewN _ _ _) (congrArg (World.drewN _) (Nat.add_assoc _ _ _))⟩)) | (go_at_call 31; (with_reducible refine (spec_l6In.calls ((rd_T60 l0_1 x4_2).f2) 0 3 true _ A57.out).mono ?_); rintro e w' ⟨rfl,⟨nd,rfl⟩⟩; (try first | exact ⟨rfl,_,World.drewN_drewN _ _ _⟩ | exact ⟨rfl,_,Eq.trans (World.drewN_drewN _ _ _) (congrArg (World.drewN _) (Nat.add_assoc _ _ _))⟩); have hcz75_0 : w14.cell? ⟨gb129,0,none⟩ = some (.int .i64 a0_0) := (blk_cell BK129.out 0).trans rfl; have hcz75_1 : w14.cell? ⟨gb129,1,none⟩ = some (.slice (some ad132) l0_1.length c0_1) := (blk_cell BK129.out 1).trans rfl; have hcz75_2 : w14.cell? ⟨gb129,2,none⟩ = some (.slice A0_2 l0_2.length c0_2) := (blk_cell BK129.out 2).trans rfl; have hfz75_0 := blk_frozen BK129.out 0; have hfz75_1 := blk_frozen BK129.out 1; have hfz75_2 := blk_frozen BK129.out 2) | (go_at_call 43; (with_reducible refine (spec_l5In.calls k2 _ _ l0_2 x4_2 t143 _ ?side1 ?side2 A72.out).mono ?_); (case side1 => exact Kd.C_below HR0_2.out (by repeat (first | (with_reducible first | exact HB.out | apply below_alloc | apply pw_below_drewN | apply below_drew1 | refine below_set ?_ GE129.out | refine below_set ?_ GE133.out) | exact HB.out))); (case side2 => exact HC0_2.out); rintro e w' ⟨rfl,⟨nd,rfl⟩⟩; (try first | exact ⟨rfl,_,World.drewN_drewN _ _ _⟩ | exact ⟨rfl,_,Eq.trans (World.drewN_drewN _ _ _) (congrArg (World.drewN _) (Nat.add_assoc _ _ _))⟩))); try go_wp2_with (first | (go_at_call 31; (with_reducible refine (spec_l6In.calls ((rd_T60 l0_1 x4_2).f0) 0 6 true _ A17.out).mono ?_); rintro e w' ⟨rfl,⟨nd,rfl⟩⟩; (try first | exact ⟨rfl,_,World.drewN_drewN _ _ _⟩ | exact ⟨rfl,_,Eq.trans (World.drewN_drewN _ _ _) (congrArg (World.drewN _) (Nat.add_assoc _ _ _))⟩)) | (go_at_call 31; (with_reducible refine (spec_l6In.calls ((rd_T60 l0_1 x4_2).f1) 0 2 true _ A19.out).mono ?_); rintro e w' ⟨rfl,⟨nd,rfl⟩⟩; (try first | exact ⟨rfl,_,World.drewN_drewN _ _ _⟩ | exact ⟨rfl,_,Eq.trans (World.drewN_drewN _ _ _) (congrArg (World.drewN _) (Nat.add_assoc _ _ _))⟩)) | (go_at_call 31; (with_reducible refine (spec_l6In.calls ((rd_T60 l0_1 x4_2).f2) 0 3 true _ A57.out).mono ?_); rintro e w' ⟨rfl,⟨nd,rfl⟩⟩; (try first | exact ⟨rfl,_,World.drewN_drewN _ _ _⟩ | exact ⟨rfl,_,Eq.trans (World.drewN_drewN _ _ _) (congrArg (World.drewN _) (Nat.add_assoc _ _ _))⟩); have hcz75_0 : w14.cell? ⟨gb129,0,none⟩ = some (.int .i64 a0_0) := (blk_cell BK129.out 0).trans rfl; have hcz75_1 : w14.cell? ⟨gb129,1,none⟩ = some (.slice (some ad132) l0_1.length c0_1) := (blk_cell BK129.out 1).trans rfl; have hcz75_2 : w14.cell? ⟨gb129,2,none⟩ = some (.slice A0_2 l0_2.length c0_2) := (blk_cell BK129.out 2).trans rfl; have hfz75_0 := blk_frozen BK129.out 0; have hfz75_1 := blk_frozen BK129.out 1; have hfz75_2 := blk_frozen BK129.out 2) | (go_at_call 43; (with_reducible refine (spec_l5In.calls k2 _ _ l0_2 x4_2 t143 _ ?side1 ?side2 A72.out).mono ?_); (case side1 => exact Kd.C_below HR0_2.out (by repeat (first | (with_reducible first | exact HB.out | apply below_alloc | apply pw_below_drewN | apply below_drew1 | refine below_set ?_ GE129.out | refine below_set ?_ GE133.out) | exact HB.out))); (case side2 => exact HC0_2.out); rintro e w' ⟨rfl,⟨nd,rfl⟩⟩; (try first | exact ⟨rfl,_,World.drewN_drewN _ _ _⟩ | exact ⟨rfl,_,Eq.trans (World.drewN_drewN _ _ _) (congrArg (World.drewN _) (Nat.add_assoc _ _ _))⟩))))
                 go_meet
                 case rel => (try rw [← Nbq63.out]); exact ⟨_,(((false) != t143)),(by first | rfl | (simp; done) | (simp [*]; done)),H',⟨by have := HJ1.out; have := HK2.out; first | omega | exact Nat.le_refl _⟩,⟨by (with_reducible repeat (first | refine blk_drewN ?_ _ | refine blk_drew ?_ | refine blk_alloc ?_ _)); refine blk_far ?_ NB129_133.out _; (with_reducible repeat (first | refine blk_drewN ?_ _ | refine blk_drew ?_ | refine blk_alloc ?_ _)); refine blk_far ?_ NB129_133.out _; (with_reducible repeat (first | refine blk_drewN ?_ _ | refine blk_drew ?_ | refine blk_alloc ?_ _)); refine blk_far ?_ NB129_133.out _; (with_reducible repeat (first | refine blk_drewN ?_ _ | refine blk_drew ?_ | refine blk_alloc ?_ _)); refine blk_far ?_ NB129_133.out _; (with_reducible repeat (first | refine blk_drewN ?_ _ | refine blk_drew ?_ | refine blk_alloc ?_ _)); first | exact BK129.out | (simp only [*]; exact BK129.out)⟩,⟨by (with_reducible repeat (first | refine blk_drewN ?_ _ | refine blk_drew ?_ | refine blk_alloc ?_ _)); refine blk_put (cs := #[.int .i64 ((rd_T60 l0_1 x4_2).f0),.int .i64 ((rd_T60 l0_1 x4_2).f1),.int .i64 ((rd_T60 l0_1 x4_2).f2),.bool false]) ?_ 3 _ rfl; (with_reducible repeat (first | refine blk_drewN ?_ _ | refine blk_drew ?_ | refine blk_alloc ?_ _)); refine blk_put (cs := #[.int .i64 ((rd_T60 l0_1 x4_2).f0),.int .i64 ((rd_T60 l0_1 x4_2).f1),.int .i64 0,.bool false]) ?_ 2 _ rfl; (with_reducible repeat (first | refine blk_drewN ?_ _ | refine blk_drew ?_ | refine blk_alloc ?_ _)); refine blk_put (cs := #[.int .i64 ((rd_T60 l0_1 x4_2).f0),.int .i64 0,.int .i64 0,.bool false]) ?_ 1 _ rfl; (with_reducible repeat (first | refine blk_drewN ?_ _ | refine blk_drew ?_ | refine blk_alloc ?_ _)); refine blk_put (cs := #[.int .i64 0,.int .i64 0,.int .i64 0,.bool false]) ?_ 0 _ rfl; (with_reducible repeat (first | refine blk_drewN ?_ _ | refine blk_drew ?_ | refine blk_alloc ?_ _)); first | exact BK133.out | (simp only [*]; exact BK133.out)⟩,⟨by repeat (first | (with_reducible first | exact HB.out | apply below_alloc | apply pw_below_drewN | apply below_drew1 | refine below_set ?_ GE129.out | refine below_set ?_ GE133.out) | exact HB.out)⟩⟩
              ·rw [if_neg c59] at H
               have c59b0 : decide (0 < ((rd_T60 l0_1 x4_2).f0)) = false := decide_eq_false c59
               clear c59
               obtain ⟨bq76,hbq76⟩ : ∃ b_ : Bool,b_ = ((rd_T60 l0_1 x4_2).f3) := ⟨_,rfl⟩
               replace H : (if bq76 = true then (if ((rd_T60 l0_1 x4_2).f0) = 3 then ((spec_l5In.f k2 l0_2 x4_2).bind fun t144 => (spec_LockOk.j2 k2 x3_2 x4_2 ((bq76) != t144) a0_0 l0_1 l0_2 ((rd_T60 l0_1 x4_2).f0) ((rd_T60 l0_1 x4_2).f1) ((rd_T60 l0_1 x4_2).f2) bq76)) else (spec_LockOk.j2 k2 x3_2 x4_2 true a0_0 l0_1 l0_2 ((rd_T60 l0_1 x4_2).f0) ((rd_T60 l0_1 x4_2).f1) ((rd_T60 l0_1 x4_2).f2) bq76)) else ((spec_l5In.f k2 l0_2 x4_2).bind fun t145 => (spec_LockOk.j2 k2 x3_2 x4_2 ((bq76) != t145) a0_0 l0_1 l0_2 ((rd_T60 l0_1 x4_2).f0) ((rd_T60 l0_1 x4_2).f1) ((rd_T60 l0_1 x4_2).f2) bq76))) = some r := by rw [← hbq76] at H; exact H
               have Nbq76 := Aside0.mk hbq76
               clear hbq76
               by_cases c77 : bq76 = true
               ·subst c77
                (try rw [← Nbq76.out])
                have H1 : (if ((rd_T60 l0_1 x4_2).f0) = 3 then ((spec_l5In.f k2 l0_2 x4_2).bind fun t144 => (spec_LockOk.j2 k2 x3_2 x4_2 ((true) != t144) a0_0 l0_1 l0_2 ((rd_T60 l0_1 x4_2).f0) ((rd_T60 l0_1 x4_2).f1) ((rd_T60 l0_1 x4_2).f2) true)) else (spec_LockOk.j2 k2 x3_2 x4_2 true a0_0 l0_1 l0_2 ((rd_T60 l0_1 x4_2).f0) ((rd_T60 l0_1 x4_2).f1) ((rd_T60 l0_1 x4_2).f2) true)) = some r := by rw [if_pos rfl] at H; exact H
                clear H
                have H := H1
                clear H1
                by_cases c78 : ((rd_T60 l0_1 x4_2).f0) = 3
                ·rw [if_pos c78] at H
                 have c78b0 : (((rd_T60 l0_1 x4_2).f0) == 3) = true := beq_iff_eq.mpr c78
                 have c78b1 : (((rd_T60 l0_1 x4_2).f0) != 3) = false := bne_eq_false_iff_eq.mpr c78
                 clear c78
                 replace H := Option.bind_eq_some_iff.mp H
                 obtain ⟨t144,A790,H⟩ := H
                 replace H : (spec_LockOk.j2 k2 x3_2 x4_2 ((true) != t144) a0_0 l0_1 l0_2 ((rd_T60 l0_1 x4_2).f0) ((rd_T60 l0_1 x4_2).f1) ((rd_T60 l0_1 x4_2).f2) true) = some r := H
                 have A79 := Aside0.mk A790
                 clear A790
                 have H' := Aside0.mk H
                 clear H
                 have hnb80 := NB133_129.out
                 have hnc80 := NB129_133.out
                 have hcz81_0 : w14.cell? ⟨gb133,0,none⟩ = some (.int .i64 0) := (blk_cell BK133.out 0).trans rfl
                 have hcz81_1 : w14.cell? ⟨gb133,1,none⟩ = some (.int .i64 0) := (blk_cell BK133.out 1).trans rfl
                 have hcz81_2 : w14.cell? ⟨gb133,2,none⟩ = some (.int .i64 0) := (blk_cell BK133.out 2).trans rfl
                 have hcz81_3 : w14.cell? ⟨gb133,3,none⟩ = some (.bool false) := (blk_cell BK133.out 3).trans rfl
                 have hfz81_0 := blk_frozen BK133.out 0
                 have hfz81_1 := blk_frozen BK133.out 1
                 have hfz81_2 := blk_frozen BK133.out 2
                 have hfz81_3 := blk_frozen BK133.out 3
                 go_wp2_with (first | (go_at_call 31; (with_reducible refine (spec_l6In.calls ((rd_T60 l0_1 x4_2).f0) 0 6 true _ A17.out).mono ?_); rintro e w' ⟨rfl,⟨nd,rfl⟩⟩; (try first | exact ⟨rfl,_,World.drewN_drewN _ _ _⟩ | exact ⟨rfl,_,Eq.trans (World.drewN_drewN _ _ _) (congrArg (World.drewN _) (Nat.add_assoc _ _ _))⟩)) | (go_at_call 31; (with_reducible refine (spec_l6In.calls ((rd_T60 l0_1 x4_2).f1) 0 2 true _ A19.out).mono ?_); rintro e w' ⟨rfl,⟨nd,rfl⟩⟩; (try first | exact ⟨rfl,_,World.drewN_drewN _ _ _⟩ | exact ⟨rfl,_,Eq.trans (World.drewN_drewN _ _ _) (congrArg (World.drewN _) (Nat.add_assoc _ _ _))⟩)) | (go_at_call 31; (with_reducible refine (spec_l6In.calls ((rd_T60 l0_1 x4_2).f2) 0 3 true _ A57.out).mono ?_); rintro e w' ⟨rfl,⟨nd,rfl⟩⟩; (try first | exact ⟨rfl,_,World.drewN_drewN _ _ _⟩ | exact ⟨rfl,_,Eq.trans (World.drewN_drewN _ _ _) (congrArg (World.drewN _) (Nat.add_assoc _ _ _))⟩); have hcz82_0 : w14.cell? ⟨gb129,0,none⟩ = some (.int .i64 a0_0) := (blk_cell BK129.out 0).trans rfl; have hcz82_1 : w14.cell? ⟨gb129,1,none⟩ = some (.slice (some ad132) l0_1.length c0_1) := (blk_cell BK129.out 1).trans rfl; have hcz82_2 : w14.cell? ⟨gb129,2,none⟩ = some (.slice A0_2 l0_2.length c0_2) := (blk_cell BK129.out 2).trans rfl; have hfz82_0 := blk_frozen BK129.out 0; have hfz82_1 := blk_frozen BK129.out 1; have hfz82_2 := blk_frozen BK129.out 2) | (go_at_call 43; (with_reducible refine (spec_l5In.calls k2 _ _ l0_2 x4_2 t144 _ ?side1 ?side2 A79.out).mono ?_); (case side1 => exact Kd.C_below HR0_2.out (by repeat (first | (with_reducible first | exact HB.out | apply below_alloc | apply pw_below_drewN | apply below_drew1 | refine below_set ?_ GE129.out | refine below_set ?_ GE133.out) | exact HB.out))); (case side2 => exact HC0_2.out); rintro e w' ⟨rfl,⟨nd,rfl⟩⟩; (try first | exact ⟨rfl,_,World.drewN_drewN _ _ _⟩ | exact ⟨rfl,_,Eq.trans (World.drewN_drewN _ _ _) (congrArg (World.drewN _) (Nat.add_assoc _ _ _))⟩)))
                 repeat (go_quiet (first | (go_at_call 31; (with_reducible refine (spec_l6In.calls ((rd_T60 l0_1 x4_2).f0) 0 6 true _ A17.out).mono ?_); rintro e w' ⟨rfl,⟨nd,rfl⟩⟩; (try first | exact ⟨rfl,_,World.drewN_drewN _ _ _⟩ | exact ⟨rfl,_,Eq.trans (World.drewN_drewN _ _ _) (congrArg (World.drewN _) (Nat.add_assoc _ _ _))⟩)) | (go_at_call 31; (with_reducible refine (spec_l6In.calls ((rd_T60 l0_1 x4_2).f1) 0 2 true _ A19.out).mono ?_); rintro e w' ⟨rfl,⟨nd,rfl⟩⟩; (try first | exact ⟨rfl,_,World.drewN_drewN _ _ _⟩ | exact ⟨rfl,_,Eq.trans (World.drewN_drewN _ _ _) (congrArg (World.drewN _) (Nat.add_assoc _ _ _))⟩)) | (go_at_call 31; (with_reducible refine (spec_l6In.calls ((rd_T60 l0_1 x4_2).f2) 0 3 true _ A57.out).mono ?_); rintro e w' ⟨rfl,⟨nd,rfl⟩⟩; (try first | exact ⟨rfl,_,World.drewN_drewN _ _ _⟩ | exact ⟨rfl,_,Eq.trans (World.drewN_drewN _ _ _) (congrArg (World.drewN _) (Nat.add_assoc _ _ _))⟩); have hcz82_0 : w14.cell? ⟨gb129,0,none⟩ = some (.int .i64 a0_0) := (blk_cell BK129.out 0).trans rfl; have hcz82_1 : w14.cell? ⟨gb129,1,none⟩ = some (.slice (some ad132) l0_1.length c0_1) := (blk_cell BK129.out 1).trans rfl; have hcz82_2 : w14.cell? ⟨gb129,2,none⟩ = some (.slice A0_2 l0_2.length c0_2) := (blk_cell BK129.out 2).trans rfl; have hfz82_0 := blk_frozen BK129.out 0; have hfz82_1 := blk_frozen BK129.out 1; have hfz82_2 := blk_frozen BK129.out 2) | (go_at_call 43; (with_reducible refine (spec_l5In.calls k2 _ _ l0_2 x4_2 t144 _ ?side1 ?side2 A79.out).mono ?_); (case side1 => exact Kd.C_below HR0_2.out (by repeat (first | (with_reducible first | exact HB.out | apply below_alloc | apply pw_below_drewN | apply below_drew1 | refine below_set ?_ GE129.out | refine below_set ?_ GE133.out) | exact HB.out))); (case side2 => exact HC0_2.out); rintro e w' ⟨rfl,⟨nd,rfl⟩⟩; (try first | exact ⟨rfl,_,World.drewN_drewN _ _ _⟩ | exact ⟨rfl,_,Eq.trans (World.drewN_drewN _ _ _) (congrArg (World.drewN _) (Nat.add_assoc _ _ _))⟩))); try go_wp2_with (first | (go_at_call 31; (with_reducible refine (spec_l6In.calls ((rd_T60 l0_1 x4_2).f0) 0 6 true _ A17.out).mono ?_); rintro e w' ⟨rfl,⟨nd,rfl⟩⟩; (try first | exact ⟨rfl,_,World.drewN_drewN _ _ _⟩ | exact ⟨rfl,_,Eq.trans (World.drewN_drewN _ _ _) (congrArg (World.drewN _) (Nat.add_assoc _ _ _))⟩)) | (go_at_call 31; (with_reducible refine (spec_l6In.calls ((rd_T60 l0_1 x4_2).f1) 0 2 true _ A19.out).mono ?_); rintro e w' ⟨rfl,⟨nd,rfl⟩⟩; (try first | exact ⟨rfl,_,World.drewN_drewN _ _ _⟩ | exact ⟨rfl,_,Eq.trans (World.drewN_drewN _ _ _) (congrArg (World.drewN _) (Nat.add_assoc _ _ _))⟩)) | (go_at_call 31; (with_reducible refine (spec_l6In.calls ((rd_T60 l0_1 x4_2).f2) 0 3 true _ A57.out).mono ?_); rintro e w' ⟨rfl,⟨nd,rfl⟩⟩; (try first | exact ⟨rfl,_,World.drewN_drewN _ _ _⟩ | exact ⟨rfl,_,Eq.trans (World.drewN_drewN _ _ _) (congrArg (World.drewN _) (Nat.add_assoc _ _ _))⟩); have hcz82_0 : w14.cell? ⟨gb129,0,none⟩ = some (.int .i64 a0_0) := (blk_cell BK129.out 0).trans rfl; have hcz82_1 : w14.cell? ⟨gb129,1,none⟩ = some (.slice (some ad132) l0_1.length c0_1) := (blk_cell BK129.out 1).trans rfl; have hcz82_2 : w14.cell? ⟨gb129,2,none⟩ = some (.slice A0_2 l0_2.length c0_2) := (blk_cell BK129.out 2).trans rfl; have hfz82_0 := blk_frozen BK129.out 0; have hfz82_1 := blk_frozen BK129.out 1; have hfz82_2 := blk_frozen BK129.out 2) | (go_at_call 43; (with_reducible refine (spec_l5In.calls k2 _ _ l0_2 x4_2 t144 _ ?side1 ?side2 A79.out).mono ?_); (case side1 => exact Kd.C_below HR0_2.out (by repeat (first | (with_reducible first | exact HB.out | apply below_alloc | apply pw_below_drewN | apply below_drew1 | refine below_set ?_ GE129.out | refine below_set ?_ GE133.out) | exact HB.out))); (case side2 => exact HC0_2.out); rintro e w' ⟨rfl,⟨nd,rfl⟩⟩; (try first | exact ⟨rfl,_,World.drewN_drewN _ _ _⟩ | exact ⟨rfl,_,Eq.trans (World.drewN_drewN _ _ _) (congrArg (World.drewN _) (Nat.add_assoc _ _ _))⟩))))
                 go_meet
                 case rel => (try rw [← Nbq76.out]); exact ⟨_,(((true) != t144)),(by first | rfl | (simp; done) | (simp [*]; done)),H',⟨by have := HJ1.out; have := HK2.out; first | omega | exact Nat.le_refl _⟩,⟨by (with_reducible repeat (first | refine blk_drewN ?_ _ | refine blk_drew ?_ | refine blk_alloc ?_ _)); refine blk_far ?_ NB129_133.out _; (with_reducible repeat (first | refine blk_drewN ?_ _ | refine blk_drew ?_ | refine blk_alloc ?_ _)); refine blk_far ?_ NB129_133.out _; (with_reducible repeat (first | refine blk_drewN ?_ _ | refine blk_drew ?_ | refine blk_alloc ?_ _)); refine blk_far ?_ NB129_133.out _; (with_reducible repeat (first | refine blk_drewN ?_ _ | refine blk_drew ?_ | refine blk_alloc ?_ _)); refine blk_far ?_ NB129_133.out _; (with_reducible repeat (first | refine blk_drewN ?_ _ | refine blk_drew ?_ | refine blk_alloc ?_ _)); first | exact BK129.out | (simp only [*]; exact BK129.out)⟩,⟨by (with_reducible repeat (first | refine blk_drewN ?_ _ | refine blk_drew ?_ | refine blk_alloc ?_ _)); refine blk_put (cs := #[.int .i64 ((rd_T60 l0_1 x4_2).f0),.int .i64 ((rd_T60 l0_1 x4_2).f1),.int .i64 ((rd_T60 l0_1 x4_2).f2),.bool false]) ?_ 3 _ rfl; (with_reducible repeat (first | refine blk_drewN ?_ _ | refine blk_drew ?_ | refine blk_alloc ?_ _)); refine blk_put (cs := #[.int .i64 ((rd_T60 l0_1 x4_2).f0),.int .i64 ((rd_T60 l0_1 x4_2).f1),.int .i64 0,.bool false]) ?_ 2 _ rfl; (with_reducible repeat (first | refine blk_drewN ?_ _ | refine blk_drew ?_ | refine blk_alloc ?_ _)); refine blk_put (cs := #[.int .i64 ((rd_T60 l0_1 x4_2).f0),.int .i64 0,.int .i64 0,.bool false]) ?_ 1 _ rfl; (with_reducible repeat (first | refine blk_drewN ?_ _ | refine blk_drew ?_ | refine blk_alloc ?_ _)); refine blk_put (cs := #[.int .i64 0,.int .i64 0,.int .i64 0,.bool false]) ?_ 0 _ rfl; (with_reducible repeat (first | refine blk_drewN ?_ _ | refine blk_drew ?_ | refine blk_alloc ?_ _)); first | exact BK133.out | (simp only [*]; exact BK133.out)⟩,⟨by repeat (first | (with_reducible first | exact HB.out | apply below_alloc | apply pw_below_drewN | apply below_drew1 | refine below_set ?_ GE129.out | refine below_set ?_ GE133.out) | exact HB.out)⟩⟩
                ·rw [if_neg c78] at H
                 have c78b0 : (((rd_T60 l0_1 x4_2).f0) == 3) = false := beq_eq_false_iff_ne.mpr c78
                 have c78b1 : (((rd_T60 l0_1 x4_2).f0) != 3) = true := bne_iff_ne.mpr c78
                 have H' := Aside0.mk H
                 clear H
                 have hnb83 := NB133_129.out
                 have hnc83 := NB129_133.out
                 have hcz84_0 : w14.cell? ⟨gb133,0,none⟩ = some (.int .i64 0) := (blk_cell BK133.out 0).trans rfl
                 have hcz84_1 : w14.cell? ⟨gb133,1,none⟩ = some (.int .i64 0) := (blk_cell BK133.out 1).trans rfl
                 have hcz84_2 : w14.cell? ⟨gb133,2,none⟩ = some (.int .i64 0) := (blk_cell BK133.out 2).trans rfl
                 have hcz84_3 : w14.cell? ⟨gb133,3,none⟩ = some (.bool false) := (blk_cell BK133.out 3).trans rfl
                 have hfz84_0 := blk_frozen BK133.out 0
                 have hfz84_1 := blk_frozen BK133.out 1
                 have hfz84_2 := blk_frozen BK133.out 2
                 have hfz84_3 := blk_frozen BK133.out 3
                 go_wp2_with (first | (go_at_call 31; (with_reducible refine (spec_l6In.calls ((rd_T60 l0_1 x4_2).f0) 0 6 true _ A17.out).mono ?_); rintro e w' ⟨rfl,⟨nd,rfl⟩⟩; (try first | exact ⟨rfl,_,World.drewN_drewN _ _ _⟩ | exact ⟨rfl,_,Eq.trans (World.drewN_drewN _ _ _) (congrArg (World.drewN _) (Nat.add_assoc _ _ _))⟩)) | (go_at_call 31; (with_reducible refine (spec_l6In.calls ((rd_T60 l0_1 x4_2).f1) 0 2 true _ A19.out).mono ?_); rintro e w' ⟨rfl,⟨nd,rfl⟩⟩; (try first | exact ⟨rfl,_,World.drewN_drewN _ _ _⟩ | exact ⟨rfl,_,Eq.trans (World.drewN_drewN _ _ _) (congrArg (World.drewN _) (Nat.add_assoc _ _ _))⟩)) | (go_at_call 31; (with_reducible refine (spec_l6In.calls ((rd_T60 l0_1 x4_2).f2) 0 3 true _ A57.out).mono ?_); rintro e w' ⟨rfl,⟨nd,rfl⟩⟩; (try first | exact ⟨rfl,_,World.drewN_drewN _ _ _⟩ | exact ⟨rfl,_,Eq.trans (World.drewN_drewN _ _ _) (congrArg (World.drewN _) (Nat.add_assoc _ _ _))⟩)))
                 repeat (go_quiet (first | (go_at_call 31; (with_reducible refine (spec_l6In.calls ((rd_T60 l0_1 x4_2).f0) 0 6 true _ A17.out).mono ?_); rintro e w' ⟨rfl,⟨nd,rfl⟩⟩; (try first | exact ⟨rfl,_,World.drewN_drewN _ _ _⟩ | exact ⟨rfl,_,Eq.trans (World.drewN_drewN _ _ _) (congrArg (World.drewN _) (Nat.add_assoc _ _ _))⟩)) | (go_at_call 31; (with_reducible refine (spec_l6In.calls ((rd_T60 l0_1 x4_2).f1) 0 2 true _ A19.out).mono ?_); rintro e w' ⟨rfl,⟨nd,rfl⟩⟩; (try first | exact ⟨rfl,_,World.drewN_drewN _ _ _⟩ | exact ⟨rfl,_,Eq.trans (World.drewN_drewN _ _ _) (congrArg (World.drewN _) (Nat.add_assoc _ _ _))⟩)) | (go_at_call 31; (with_reducible refine (spec_l6In.calls ((rd_T60 l0_1 x4_2).f2) 0 3 true _ A57.out).mono ?_); rintro e w' ⟨rfl,⟨nd,rfl⟩⟩; (try first | exact ⟨rfl,_,World.drewN_drewN _ _ _⟩ | exact ⟨rfl,_,Eq.trans (World.drewN_drewN _ _ _) (congrArg (World.drewN _) (Nat.add_assoc _ _ _))⟩))); try go_wp2_with (first | (go_at_call 31; (with_reducible refine (spec_l6In.calls ((rd_T60 l0_1 x4_2).f0) 0 6 true _ A17.out).mono ?_); rintro e w' ⟨rfl,⟨nd,rfl⟩⟩; (try first | exact ⟨rfl,_,World.drewN_drewN _ _ _⟩ | exact ⟨rfl,_,Eq.trans (World.drewN_drewN _ _ _) (congrArg (World.drewN _) (Nat.add_assoc _ _ _))⟩)) | (go_at_call 31; (with_reducible refine (spec_l6In.calls ((rd_T60 l0_1 x4_2).f1) 0 2 true _ A19.out).mono ?_); rintro e w' ⟨rfl,⟨nd,rfl⟩⟩; (try first | exact ⟨rfl,_,World.drewN_drewN _ _ _⟩ | exact ⟨rfl,_,Eq.trans (World.drewN_drewN _ _ _) (congrArg (World.drewN _) (Nat.add_assoc _ _ _))⟩)) | (go_at_call 31; (with_reducible refine (spec_l6In.calls ((rd_T60 l0_1 x4_2).f2) 0 3 true _ A57.out).mono ?_); rintro e w' ⟨rfl,⟨nd,rfl⟩⟩; (try first | exact ⟨rfl,_,World.drewN_drewN _ _ _⟩ | exact ⟨rfl,_,Eq.trans (World.drewN_drewN _ _ _) (congrArg (World.drewN _) (Nat.add_assoc _ _ _))⟩))))
                 go_meet
                 case rel => (try rw [← Nbq76.out]); exact ⟨_,(true),(by first | rfl | (simp; done) | (simp [*]; done)),H',⟨by have := HJ1.out; have := HK2.out; first | omega | exact Nat.le_refl _⟩,⟨by (with_reducible repeat (first | refine blk_drewN ?_ _ | refine blk_drew ?_ | refine blk_alloc ?_ _)); refine blk_far ?_ NB129_133.out _; (with_reducible repeat (first | refine blk_drewN ?_ _ | refine blk_drew ?_ | refine blk_alloc ?_ _)); refine blk_far ?_ NB129_133.out _; (with_reducible repeat (first | refine blk_drewN ?_ _ | refine blk_drew ?_ | refine blk_alloc ?_ _)); refine blk_far ?_ NB129_133.out _; (with_reducible repeat (first | refine blk_drewN ?_ _ | refine blk_drew ?_ | refine blk_alloc ?_ _)); refine blk_far ?_ NB129_133.out _; (with_reducible repeat (first | refine blk_drewN ?_ _ | refine blk_drew ?_ | refine blk_alloc ?_ _)); first | exact BK129.out | (simp only [*]; exact BK129.out)⟩,⟨by (with_reducible repeat (first | refine blk_drewN ?_ _ | refine blk_drew ?_ | refine blk_alloc ?_ _)); refine blk_put (cs := #[.int .i64 ((rd_T60 l0_1 x4_2).f0),.int .i64 ((rd_T60 l0_1 x4_2).f1),.int .i64 ((rd_T60 l0_1 x4_2).f2),.bool false]) ?_ 3 _ rfl; (with_reducible repeat (first | refine blk_drewN ?_ _ | refine blk_drew ?_ | refine blk_alloc ?_ _)); refine blk_put (cs := #[.int .i64 ((rd_T60 l0_1 x4_2).f0),.int .i64 ((rd_T60 l0_1 x4_2).f1),.int .i64 0,.bool false]) ?_ 2 _ rfl; (with_reducible repeat (first | refine blk_drewN ?_ _ | refine blk_drew ?_ | refine blk_alloc ?_ _)); refine blk_put (cs := #[.int .i64 ((rd_T60 l0_1 x4_2).f0),.int .i64 0,.int .i64 0,.bool false]) ?_ 1 _ rfl; (with_reducible repeat (first | refine blk_drewN ?_ _ | refine blk_drew ?_ | refine blk_alloc ?_ _)); refine blk_put (cs := #[.int .i64 0,.int .i64 0,.int .i64 0,.bool false]) ?_ 0 _ rfl; (with_reducible repeat (first | refine blk_drewN ?_ _ | refine blk_drew ?_ | refine blk_alloc ?_ _)); first | exact BK133.out | (simp only [*]; exact BK133.out)⟩,⟨by repeat (first | (with_reducible first | exact HB.out | apply below_alloc | apply pw_below_drewN | apply below_drew1 | refine below_set ?_ GE129.out | refine below_set ?_ GE133.out) | exact HB.out)⟩⟩
               ·replace c77 := Bool.eq_false_iff.mpr c77
                subst c77
                (try rw [← Nbq76.out])
                have H1 : ((spec_l5In.f k2 l0_2 x4_2).bind fun t145 => (spec_LockOk.j2 k2 x3_2 x4_2 ((false) != t145) a0_0 l0_1 l0_2 ((rd_T60 l0_1 x4_2).f0) ((rd_T60 l0_1 x4_2).f1) ((rd_T60 l0_1 x4_2).f2) false)) = some r := by rw [if_neg (show ¬ (false = true) by decide)] at H; exact H
                clear H
                have H := H1
                clear H1
                replace H := Option.bind_eq_some_iff.mp H
                obtain ⟨t145,A850,H⟩ := H
                replace H : (spec_LockOk.j2 k2 x3_2 x4_2 ((false) != t145) a0_0 l0_1 l0_2 ((rd_T60 l0_1 x4_2).f0) ((rd_T60 l0_1 x4_2).f1) ((rd_T60 l0_1 x4_2).f2) false) = some r := H
                have A85 := Aside0.mk A850
                clear A850
                have H' := Aside0.mk H
                clear H
                have hnb86 := NB133_129.out
                have hnc86 := NB129_133.out
                have hcz87_0 : w14.cell? ⟨gb133,0,none⟩ = some (.int .i64 0) := (blk_cell BK133.out 0).trans rfl
                have hcz87_1 : w14.cell? ⟨gb133,1,none⟩ = some (.int .i64 0) := (blk_cell BK133.out 1).trans rfl
                have hcz87_2 : w14.cell? ⟨gb133,2,none⟩ = some (.int .i64 0) := (blk_cell BK133.out 2).trans rfl
                have hcz87_3 : w14.cell? ⟨gb133,3,none⟩ = some (.bool false) := (blk_cell BK133.out 3).trans rfl
                have hfz87_0 := blk_frozen BK133.out 0
                have hfz87_1 := blk_frozen BK133.out 1
                have hfz87_2 := blk_frozen BK133.out 2
                have hfz87_3 := blk_frozen BK133.out 3
                go_wp2_with (first | (go_at_call 31; (with_reducible refine (spec_l6In.calls ((rd_T60 l0_1 x4_2).f0) 0 6 true _ A17.out).mono ?_); rintro e w' ⟨rfl,⟨nd,rfl⟩⟩; (try first | exact ⟨rfl,_,World.drewN_drewN _ _ _⟩ | exact ⟨rfl,_,Eq.trans (World.drewN_drewN _ _ _) (congrArg (World.drewN _) (Nat.add_assoc _ _ _))⟩)) | (go_at_call 31; (with_reducible refine (spec_l6In.calls ((rd_T60 l0_1 x4_2).f1) 0 2 true _ A19.out).mono ?_); rintro e w' ⟨rfl,⟨nd,rfl⟩⟩; (try first | exact ⟨rfl,_,World.drewN_drewN _ _ _⟩ | exact ⟨rfl,_,Eq.trans (World.drewN_drewN _ _ _) (congrArg (World.drewN _) (Nat.add_assoc _ _ _))⟩)) | (go_at_call 31; (with_reducible refine (spec_l6In.calls ((rd_T60 l0_1 x4_2).f2) 0 3 true _ A57.out).mono ?_); rintro e w' ⟨rfl,⟨nd,rfl⟩⟩; (try first | exact ⟨rfl,_,World.drewN_drewN _ _ _⟩ | exact ⟨rfl,_,Eq.trans (World.drewN_drewN _ _ _) (congrArg (World.drewN _) (Nat.add_assoc _ _ _))⟩); have hcz88_0 : w14.cell? ⟨gb129,0,none⟩ = some (.int .i64 a0_0) := (blk_cell BK129.out 0).trans rfl; have hcz88_1 : w14.cell? ⟨gb129,1,none⟩ = some (.slice (some ad132) l0_1.length c0_1) := (blk_cell BK129.out 1).trans rfl; have hcz88_2 : w14.cell? ⟨gb129,2,none⟩ = some (.slice A0_2 l0_2.length c0_2) := (blk_cell BK129.out 2).trans rfl; have hfz88_0 := blk_frozen BK129.out 0; have hfz88_1 := blk_frozen BK129.out 1; have hfz88_2 := blk_frozen BK129.out 2) | (go_at_call 43; (with_reducible refine (spec_l5In.calls k2 _ _ l0_2 x4_2 t145 _ ?side1 ?side2 A85.out).mono ?_); (case side1 => exact Kd.C_below HR0_2.out (by repeat (first | (with_reducible first | exact HB.out | apply below_alloc | apply pw_below_drewN | apply below_drew1 | refine below_set ?_ GE129.out | refine below_set ?_ GE133.out) | exact HB.out))); (case side2 => exact HC0_2.out); rintro e w' ⟨rfl,⟨nd,rfl⟩⟩; (try first | exact ⟨rfl,_,World.drewN_drewN _ _ _⟩ | exact ⟨rfl,_,Eq.trans (World.drewN_drewN _ _ _) (congrArg (World.drewN _) (Nat.add_assoc _ _ _))⟩)))
                repeat (go_quiet (first | (go_at_call 31; (with_reducible refine (spec_l6In.calls ((rd_T60 l0_1 x4_2).f0) 0 6 true _ A17.out).mono ?_); rintro e w' ⟨rfl,⟨nd,rfl⟩⟩; (try first | exact ⟨rfl,_,World.drewN_drewN _ _ _⟩ | exact ⟨rfl,_,Eq.trans (World.drewN_drewN _ _ _) (congrArg (World.drewN _) (Nat.add_assoc _ _ _))⟩)) | (go_at_call 31; (with_reducible refine (spec_l6In.calls ((rd_T60 l0_1 x4_2).f1) 0 2 true _ A19.out).mono ?_); rintro e w' ⟨rfl,⟨nd,rfl⟩⟩; (try first | exact ⟨rfl,_,World.drewN_drewN _ _ _⟩ | exact ⟨rfl,_,Eq.trans (World.drewN_drewN _ _ _) (congrArg (World.drewN _) (Nat.add_assoc _ _ _))⟩)) | (go_at_call 31; (with_reducible refine (spec_l6In.calls ((rd_T60 l0_1 x4_2).f2) 0 3 true _ A57.out).mono ?_); rintro e w' ⟨rfl,⟨nd,rfl⟩⟩; (try first | exact ⟨rfl,_,World.drewN_drewN _ _ _⟩ | exact ⟨rfl,_,Eq.trans (World.drewN_drewN _ _ _) (congrArg (World.drewN _) (Nat.add_assoc _ _ _))⟩); have hcz88_0 : w14.cell? ⟨gb129,0,none⟩ = some (.int .i64 a0_0) := (blk_cell BK129.out 0).trans rfl; have hcz88_1 : w14.cell? ⟨gb129,1,none⟩ = some (.slice (some ad132) l0_1.length c0_1) := (blk_cell BK129.out 1).trans rfl; have hcz88_2 : w14.cell? ⟨gb129,2,none⟩ = some (.slice A0_2 l0_2.length c0_2) := (blk_cell BK129.out 2).trans rfl; have hfz88_0 := blk_frozen BK129.out 0; have hfz88_1 := blk_frozen BK129.out 1; have hfz88_2 := blk_frozen BK129.out 2) | (go_at_call 43; (with_reducible refine (spec_l5In.calls k2 _ _ l0_2 x4_2 t145 _ ?side1 ?side2 A85.out).mono ?_); (case side1 => exact Kd.C_below HR0_2.out (by repeat (first | (with_reducible first | exact HB.out | apply below_alloc | apply pw_below_drewN | apply below_drew1 | refine below_set ?_ GE129.out | refine below_set ?_ GE133.out) | exact HB.out))); (case side2 => exact HC0_2.out); rintro e w' ⟨rfl,⟨nd,rfl⟩⟩; (try first | exact ⟨rfl,_,World.drewN_drewN _ _ _⟩ | exact ⟨rfl,_,Eq.trans (World.drewN_drewN _ _ _) (congrArg (World.drewN _) (Nat.add_assoc _ _ _))⟩))); try go_wp2_with (first | (go_at_call 31; (with_reducible refine (spec_l6In.calls ((rd_T60 l0_1 x4_2).f0) 0 6 true _ A17.out).mono ?_); rintro e w' ⟨rfl,⟨nd,rfl⟩⟩; (try first | exact ⟨rfl,_,World.drewN_drewN _ _ _⟩ | exact ⟨rfl,_,Eq.trans (World.drewN_drewN _ _ _) (congrArg (World.drewN _) (Nat.add_assoc _ _ _))⟩)) | (go_at_call 31; (with_reducible refine (spec_l6In.calls ((rd_T60 l0_1 x4_2).f1) 0 2 true _ A19.out).mono ?_); rintro e w' ⟨rfl,⟨nd,rfl⟩⟩; (try first | exact ⟨rfl,_,World.drewN_drewN _ _ _⟩ | exact ⟨rfl,_,Eq.trans (World.drewN_drewN _ _ _) (congrArg (World.drewN _) (Nat.add_assoc _ _ _))⟩)) | (go_at_call 31; (with_reducible refine (spec_l6In.calls ((rd_T60 l0_1 x4_2).f2) 0 3 true _ A57.out).mono ?_); rintro e w' ⟨rfl,⟨nd,rfl⟩⟩; (try first | exact ⟨rfl,_,World.drewN_drewN _ _ _⟩ | exact ⟨rfl,_,Eq.trans (World.drewN_drewN _ _ _) (congrArg (World.drewN _) (Nat.add_assoc _ _ _))⟩); have hcz88_0 : w14.cell? ⟨gb129,0,none⟩ = some (.int .i64 a0_0) := (blk_cell BK129.out 0).trans rfl; have hcz88_1 : w14.cell? ⟨gb129,1,none⟩ = some (.slice (some ad132) l0_1.length c0_1) := (blk_cell BK129.out 1).trans rfl; have hcz88_2 : w14.cell? ⟨gb129,2,none⟩ = some (.slice A0_2 l0_2.length c0_2) := (blk_cell BK129.out 2).trans rfl; have hfz88_0 := blk_frozen BK129.out 0; have hfz88_1 := blk_frozen BK129.out 1; have hfz88_2 := blk_frozen BK129.out 2) | (go_at_call 43; (with_reducible refine (spec_l5In.calls k2 _ _ l0_2 x4_2 t145 _ ?side1 ?side2 A85.out).mono ?_); (case side1 => exact Kd.C_below HR0_2.out (by repeat (first | (with_reducible first | exact HB.out | apply below_alloc | apply pw_below_drewN | apply below_drew1 | refine below_set ?_ GE129.out | refine below_set ?_ GE133.out) | exact HB.out))); (case side2 => exact HC0_2.out); rintro e w' ⟨rfl,⟨nd,rfl⟩⟩; (try first | exact ⟨rfl,_,World.drewN_drewN _ _ _⟩ | exact ⟨rfl,_,Eq.trans (World.drewN_drewN _ _ _) (congrArg (World.drewN _) (Nat.add_assoc _ _ _))⟩))))
                go_meet
                case rel => (try rw [← Nbq76.out]); exact ⟨_,(((false) != t145)),(by first | rfl | (simp; done) | (simp [*]; done)),H',⟨by have := HJ1.out; have := HK2.out; first | omega | exact Nat.le_refl _⟩,⟨by (with_reducible repeat (first | refine blk_drewN ?_ _ | refine blk_drew ?_ | refine blk_alloc ?_ _)); refine blk_far ?_ NB129_133.out _; (with_reducible repeat (first | refine blk_drewN ?_ _ | refine blk_drew ?_ | refine blk_alloc ?_ _)); refine blk_far ?_ NB129_133.out _; (with_reducible repeat (first | refine blk_drewN ?_ _ | refine blk_drew ?_ | refine blk_alloc ?_ _)); refine blk_far ?_ NB129_133.out _; (with_reducible repeat (first | refine blk_drewN ?_ _ | refine blk_drew ?_ | refine blk_alloc ?_ _)); refine blk_far ?_ NB129_133.out _; (with_reducible repeat (first | refine blk_drewN ?_ _ | refine blk_drew ?_ | refine blk_alloc ?_ _)); first | exact BK129.out | (simp only [*]; exact BK129.out)⟩,⟨by (with_reducible repeat (first | refine blk_drewN ?_ _ | refine blk_drew ?_ | refine blk_alloc ?_ _)); refine blk_put (cs := #[.int .i64 ((rd_T60 l0_1 x4_2).f0),.int .i64 ((rd_T60 l0_1 x4_2).f1),.int .i64 ((rd_T60 l0_1 x4_2).f2),.bool false]) ?_ 3 _ rfl; (with_reducible repeat (first | refine blk_drewN ?_ _ | refine blk_drew ?_ | refine blk_alloc ?_ _)); refine blk_put (cs := #[.int .i64 ((rd_T60 l0_1 x4_2).f0),.int .i64 ((rd_T60 l0_1 x4_2).f1),.int .i64 0,.bool false]) ?_ 2 _ rfl; (with_reducible repeat (first | refine blk_drewN ?_ _ | refine blk_drew ?_ | refine blk_alloc ?_ _)); refine blk_put (cs := #[.int .i64 ((rd_T60 l0_1 x4_2).f0),.int .i64 0,.int .i64 0,.bool false]) ?_ 1 _ rfl; (with_reducible repeat (first | refine blk_drewN ?_ _ | refine blk_drew ?_ | refine blk_alloc ?_ _)); refine blk_put (cs := #[.int .i64 0,.int .i64 0,.int .i64 0,.bool false]) ?_ 0 _ rfl; (with_reducible repeat (first | refine blk_drewN ?_ _ | refine blk_drew ?_ | refine blk_alloc ?_ _)); first | exact BK133.out | (simp only [*]; exact BK133.out)⟩,⟨by repeat (first | (with_reducible first | exact HB.out | apply below_alloc | apply pw_below_drewN | apply below_drew1 | refine below_set ?_ GE129.out | refine below_set ?_ GE133.out) | exact HB.out)⟩⟩
             ·replace c58 := Bool.eq_false_iff.mpr c58
              subst c58
              have H1 : (spec_LockOk.j2 k2 x3_2 x4_2 true a0_0 l0_1 l0_2 ((rd_T60 l0_1 x4_2).f0) ((rd_T60 l0_1 x4_2).f1) ((rd_T60 l0_1 x4_2).f2) ((rd_T60 l0_1 x4_2).f3)) = some r := by rw [if_neg (show ¬ (false = true) by decide)] at H; exact H
              clear H
              have H := H1
              clear H1
              have H' := Aside0.mk H
              clear H
              have hnb89 := NB133_129.out
              have hnc89 := NB129_133.out
              have hcz90_0 : w14.cell? ⟨gb133,0,none⟩ = some (.int .i64 0) := (blk_cell BK133.out 0).trans rfl
              have hcz90_1 : w14.cell? ⟨gb133,1,none⟩ = some (.int .i64 0) := (blk_cell BK133.out 1).trans rfl
              have hcz90_2 : w14.cell? ⟨gb133,2,none⟩ = some (.int .i64 0) := (blk_cell BK133.out 2).trans rfl
              have hcz90_3 : w14.cell? ⟨gb133,3,none⟩ = some (.bool false) := (blk_cell BK133.out 3).trans rfl
              have hfz90_0 := blk_frozen BK133.out 0
              have hfz90_1 := blk_frozen BK133.out 1
              have hfz90_2 := blk_frozen BK133.out 2
              have hfz90_3 := blk_frozen BK133.out 3
              go_wp2_with (first | (go_at_call 31; (with_reducible refine (spec_l6In.calls ((rd_T60 l0_1 x4_2).f0) 0 6 true _ A17.out).mono ?_); rintro e w' ⟨rfl,⟨nd,rfl⟩⟩; (try first | exact ⟨rfl,_,World.drewN_drewN _ _ _⟩ | exact ⟨rfl,_,Eq.trans (World.drewN_drewN _ _ _) (congrArg (World.drewN _) (Nat.add_assoc _ _ _))⟩)) | (go_at_call 31; (with_reducible refine (spec_l6In.calls ((rd_T60 l0_1 x4_2).f1) 0 2 true _ A19.out).mono ?_); rintro e w' ⟨rfl,⟨nd,rfl⟩⟩; (try first | exact ⟨rfl,_,World.drewN_drewN _ _ _⟩ | exact ⟨rfl,_,Eq.trans (World.drewN_drewN _ _ _) (congrArg (World.drewN _) (Nat.add_assoc _ _ _))⟩)) | (go_at_call 31; (with_reducible refine (spec_l6In.calls ((rd_T60 l0_1 x4_2).f2) 0 3 false _ A57.out).mono ?_); rintro e w' ⟨rfl,⟨nd,rfl⟩⟩; (try first | exact ⟨rfl,_,World.drewN_drewN _ _ _⟩ | exact ⟨rfl,_,Eq.trans (World.drewN_drewN _ _ _) (congrArg (World.drewN _) (Nat.add_assoc _ _ _))⟩)))
              repeat (go_quiet (first | (go_at_call 31; (with_reducible refine (spec_l6In.calls ((rd_T60 l0_1 x4_2).f0) 0 6 true _ A17.out).mono ?_); rintro e w' ⟨rfl,⟨nd,rfl⟩⟩; (try first | exact ⟨rfl,_,World.drewN_drewN _ _ _⟩ | exact ⟨rfl,_,Eq.trans (World.drewN_drewN _ _ _) (congrArg (World.drewN _) (Nat.add_assoc _ _ _))⟩)) | (go_at_call 31; (with_reducible refine (spec_l6In.calls ((rd_T60 l0_1 x4_2).f1) 0 2 true _ A19.out).mono ?_); rintro e w' ⟨rfl,⟨nd,rfl⟩⟩; (try first | exact ⟨rfl,_,World.drewN_drewN _ _ _⟩ | exact ⟨rfl,_,Eq.trans (World.drewN_drewN _ _ _) (congrArg (World.drewN _) (Nat.add_assoc _ _ _))⟩)) | (go_at_call 31; (with_reducible refine (spec_l6In.calls ((rd_T60 l0_1 x4_2).f2) 0 3 false _ A57.out).mono ?_); rintro e w' ⟨rfl,⟨nd,rfl⟩⟩; (try first | exact ⟨rfl,_,World.drewN_drewN _ _ _⟩ | exact ⟨rfl,_,Eq.trans (World.drewN_drewN _ _ _) (congrArg (World.drewN _) (Nat.add_assoc _ _ _))⟩))); try go_wp2_with (first | (go_at_call 31; (with_reducible refine (spec_l6In.calls ((rd_T60 l0_1 x4_2).f0) 0 6 true _ A17.out).mono ?_); rintro e w' ⟨rfl,⟨nd,rfl⟩⟩; (try first | exact ⟨rfl,_,World.drewN_drewN _ _ _⟩ | exact ⟨rfl,_,Eq.trans (World.drewN_drewN _ _ _) (congrArg (World.drewN _) (Nat.add_assoc _ _ _))⟩)) | (go_at_call 31; (with_reducible refine (spec_l6In.calls ((rd_T60 l0_1 x4_2).f1) 0 2 true _ A19.out).mono ?_); rintro e w' ⟨rfl,⟨nd,rfl⟩⟩; (try first | exact ⟨rfl,_,World.drewN_drewN _ _ _⟩ | exact ⟨rfl,_,Eq.trans (World.drewN_drewN _ _ _) (congrArg (World.drewN _) (Nat.add_assoc _ _ _))⟩)) | (go_at_call 31; (with_reducible refine (spec_l6In.calls ((rd_T60 l0_1 x4_2).f2) 0 3 false _ A57.out).mono ?_); rintro e w' ⟨rfl,⟨nd,rfl⟩⟩; (try first | exact ⟨rfl,_,World.drewN_drewN _ _ _⟩ | exact ⟨rfl,_,Eq.trans (World.drewN_drewN _ _ _) (congrArg (World.drewN _) (Nat.add_assoc _ _ _))⟩))))
              go_meet
              case rel => exact ⟨_,(true),(by first | rfl | (simp; done) | (simp [*]; done)),H',⟨by have := HJ1.out; have := HK2.out; first | omega | exact Nat.le_refl _⟩,⟨by (with_reducible repeat (first | refine blk_drewN ?_ _ | refine blk_drew ?_ | refine blk_alloc ?_ _)); refine blk_far ?_ NB129_133.out _; (with_reducible repeat (first | refine blk_drewN ?_ _ | refine blk_drew ?_ | refine blk_alloc ?_ _)); refine blk_far ?_ NB129_133.out _; (with_reducible repeat (first | refine blk_drewN ?_ _ | refine blk_drew ?_ | refine blk_alloc ?_ _)); refine blk_far ?_ NB129_133.out _; (with_reducible repeat (first | refine blk_drewN ?_ _ | refine blk_drew ?_ | refine blk_alloc ?_ _)); refine blk_far ?_ NB129_133.out _; (with_reducible repeat (first | refine blk_drewN ?_ _ | refine blk_drew ?_ | refine blk_alloc ?_ _)); first | exact BK129.out | (simp only [*]; exact BK129.out)⟩,⟨by (with_reducible repeat (first | refine blk_drewN ?_ _ | refine blk_drew ?_ | refine blk_alloc ?_ _)); refine blk_put (cs := #[.int .i64 ((rd_T60 l0_1 x4_2).f0),.int .i64 ((rd_T60 l0_1 x4_2).f1),.int .i64 ((rd_T60 l0_1 x4_2).f2),.bool false]) ?_ 3 _ rfl; (with_reducible repeat (first | refine blk_drewN ?_ _ | refine blk_drew ?_ | refine blk_alloc ?_ _)); refine blk_put (cs := #[.int .i64 ((rd_T60 l0_1 x4_2).f0),.int .i64 ((rd_T60 l0_1 x4_2).f1),.int .i64 0,.bool false]) ?_ 2 _ rfl; (with_reducible repeat (first | refine blk_drewN ?_ _ | refine blk_drew ?_ | refine blk_alloc ?_ _)); refine blk_put (cs := #[.int .i64 ((rd_T60 l0_1 x4_2).f0),.int .i64 0,.int .i64 0,.bool false]) ?_ 1 _ rfl; (with_reducible repeat (first | refine blk_drewN ?_ _ | refine blk_drew ?_ | refine blk_alloc ?_ _)); refine blk_put (cs := #[.int .i64 0,.int .i64 0,.int .i64 0,.bool false]) ?_ 0 _ rfl; (with_reducible repeat (first | refine blk_drewN ?_ _ | refine blk_drew ?_ | refine blk_alloc ?_ _)); first | exact BK133.out | (simp only [*]; exact BK133.out)⟩,⟨by repeat (first | (with_reducible first | exact HB.out | apply below_alloc | apply pw_below_drewN | apply below_drew1 | refine below_set ?_ GE129.out | refine below_set ?_ GE133.out) | exact HB.out)⟩⟩
            ·rw [if_neg c56] at H
             have c56b0 : (((rd_T60 l0_1 x4_2).f1) == 0) = false := beq_eq_false_iff_ne.mpr c56
             have c56b1 : (((rd_T60 l0_1 x4_2).f1) != 0) = true := bne_iff_ne.mpr c56
             have H' := Aside0.mk H
             clear H
             have hnb91 := NB133_129.out
             have hnc91 := NB129_133.out
             have hcz92_0 : w14.cell? ⟨gb133,0,none⟩ = some (.int .i64 0) := (blk_cell BK133.out 0).trans rfl
             have hcz92_1 : w14.cell? ⟨gb133,1,none⟩ = some (.int .i64 0) := (blk_cell BK133.out 1).trans rfl
             have hcz92_2 : w14.cell? ⟨gb133,2,none⟩ = some (.int .i64 0) := (blk_cell BK133.out 2).trans rfl
             have hcz92_3 : w14.cell? ⟨gb133,3,none⟩ = some (.bool false) := (blk_cell BK133.out 3).trans rfl
             have hfz92_0 := blk_frozen BK133.out 0
             have hfz92_1 := blk_frozen BK133.out 1
             have hfz92_2 := blk_frozen BK133.out 2
             have hfz92_3 := blk_frozen BK133.out 3
             go_wp2_with (first | (go_at_call 31; (with_reducible refine (spec_l6In.calls ((rd_T60 l0_1 x4_2).f0) 0 6 true _ A17.out).mono ?_); rintro e w' ⟨rfl,⟨nd,rfl⟩⟩; (try first | exact ⟨rfl,_,World.drewN_drewN _ _ _⟩ | exact ⟨rfl,_,Eq.trans (World.drewN_drewN _ _ _) (congrArg (World.drewN _) (Nat.add_assoc _ _ _))⟩)) | (go_at_call 31; (with_reducible refine (spec_l6In.calls ((rd_T60 l0_1 x4_2).f1) 0 2 true _ A19.out).mono ?_); rintro e w' ⟨rfl,⟨nd,rfl⟩⟩; (try first | exact ⟨rfl,_,World.drewN_drewN _ _ _⟩ | exact ⟨rfl,_,Eq.trans (World.drewN_drewN _ _ _) (congrArg (World.drewN _) (Nat.add_assoc _ _ _))⟩)))
             repeat (go_quiet (first | (go_at_call 31; (with_reducible refine (spec_l6In.calls ((rd_T60 l0_1 x4_2).f0) 0 6 true _ A17.out).mono ?_); rintro e w' ⟨rfl,⟨nd,rfl⟩⟩; (try first | exact ⟨rfl,_,World.drewN_drewN _ _ _⟩ | exact ⟨rfl,_,Eq.trans (World.drewN_drewN _ _ _) (congrArg (World.drewN _) (Nat.add_assoc _ _ _))⟩)) | (go_at_call 31; (with_reducible refine (spec_l6In.calls ((rd_T60 l0_1 x4_2).f1) 0 2 true _ A19.out).mono ?_); rintro e w' ⟨rfl,⟨nd,rfl⟩⟩; (try first | exact ⟨rfl,_,World.drewN_drewN _ _ _⟩ | exact ⟨rfl,_,Eq.trans (World.drewN_drewN _ _ _) (congrArg (World.drewN _) (Nat.add_assoc _ _ _))⟩))); try go_wp2_with (first | (go_at_call 31; (with_reducible refine (spec_l6In.calls ((rd_T60 l0_1 x4_2).f0) 0 6 true _ A17.out).mono ?_); rintro e w' ⟨rfl,⟨nd,rfl⟩⟩; (try first | exact ⟨rfl,_,World.drewN_drewN _ _ _⟩ | exact ⟨rfl,_,Eq.trans (World.drewN_drewN _ _ _) (congrArg (World.drewN _) (Nat.add_assoc _ _ _))⟩)) | (go_at_call 31; (with_reducible refine (spec_l6In.calls ((rd_T60 l0_1 x4_2).f1) 0 2 true _ A19.out).mono ?_); rintro e w' ⟨rfl,⟨nd,rfl⟩⟩; (try first | exact ⟨rfl,_,World.drewN_drewN _ _ _⟩ | exact ⟨rfl,_,Eq.trans (World.drewN_drewN _ _ _) (congrArg (World.drewN _) (Nat.add_assoc _ _ _))⟩))))
             go_meet
             case rel => exact ⟨_,(true),(by first | rfl | (simp; done) | (simp [*]; done)),H',⟨by have := HJ1.out; have := HK2.out; first | omega | exact Nat.le_refl _⟩,⟨by (with_reducible repeat (first | refine blk_drewN ?_ _ | refine blk_drew ?_ | refine blk_alloc ?_ _)); refine blk_far ?_ NB129_133.out _; (with_reducible repeat (first | refine blk_drewN ?_ _ | refine blk_drew ?_ | refine blk_alloc ?_ _)); refine blk_far ?_ NB129_133.out _; (with_reducible repeat (first | refine blk_drewN ?_ _ | refine blk_drew ?_ | refine blk_alloc ?_ _)); refine blk_far ?_ NB129_133.out _; (with_reducible repeat (first | refine blk_drewN ?_ _ | refine blk_drew ?_ | refine blk_alloc ?_ _)); refine blk_far ?_ NB129_133.out _; (with_reducible repeat (first | refine blk_drewN ?_ _ | refine blk_drew ?_ | refine blk_alloc ?_ _)); first | exact BK129.out | (simp only [*]; exact BK129.out)⟩,⟨by (with_reducible repeat (first | refine blk_drewN ?_ _ | refine blk_drew ?_ | refine blk_alloc ?_ _)); refine blk_put (cs := #[.int .i64 ((rd_T60 l0_1 x4_2).f0),.int .i64 ((rd_T60 l0_1 x4_2).f1),.int .i64 ((rd_T60 l0_1 x4_2).f2),.bool false]) ?_ 3 _ rfl; (with_reducible repeat (first | refine blk_drewN ?_ _ | refine blk_drew ?_ | refine blk_alloc ?_ _)); refine blk_put (cs := #[.int .i64 ((rd_T60 l0_1 x4_2).f0),.int .i64 ((rd_T60 l0_1 x4_2).f1),.int .i64 0,.bool false]) ?_ 2 _ rfl; (with_reducible repeat (first | refine blk_drewN ?_ _ | refine blk_drew ?_ | refine blk_alloc ?_ _)); refine blk_put (cs := #[.int .i64 ((rd_T60 l0_1 x4_2).f0),.int .i64 0,.int .i64 0,.bool false]) ?_ 1 _ rfl; (with_reducible repeat (first | refine blk_drewN ?_ _ | refine blk_drew ?_ | refine blk_alloc ?_ _)); refine blk_put (cs := #[.int .i64 0,.int .i64 0,.int .i64 0,.bool false]) ?_ 0 _ rfl; (with_reducible repeat (first | refine blk_drewN ?_ _ | refine blk_drew ?_ | refine blk_alloc ?_ _)); first | exact BK133.out | (simp only [*]; exact BK133.out)⟩,⟨by repeat (first | (with_reducible first | exact HB.out | apply below_alloc | apply pw_below_drewN | apply below_drew1 | refine below_set ?_ GE129.out | refine below_set ?_ GE133.out) | exact HB.out)⟩⟩
          ·replace c20 := Bool.eq_false_iff.mpr c20
           subst c20
           have H1 : (spec_LockOk.j2 k2 x3_2 x4_2 true a0_0 l0_1 l0_2 ((rd_T60 l0_1 x4_2).f0) ((rd_T60 l0_1 x4_2).f1) ((rd_T60 l0_1 x4_2).f2) ((rd_T60 l0_1 x4_2).f3)) = some r := by rw [if_neg (show ¬ (false = true) by decide)] at H; exact H
           clear H
           have H := H1
           clear H1
           have H' := Aside0.mk H
           clear H
           have hnb93 := NB133_129.out
           have hnc93 := NB129_133.out
           have hcz94_0 : w14.cell? ⟨gb133,0,none⟩ = some (.int .i64 0) := (blk_cell BK133.out 0).trans rfl
           have hcz94_1 : w14.cell? ⟨gb133,1,none⟩ = some (.int .i64 0) := (blk_cell BK133.out 1).trans rfl
           have hcz94_2 : w14.cell? ⟨gb133,2,none⟩ = some (.int .i64 0) := (blk_cell BK133.out 2).trans rfl
           have hcz94_3 : w14.cell? ⟨gb133,3,none⟩ = some (.bool false) := (blk_cell BK133.out 3).trans rfl
           have hfz94_0 := blk_frozen BK133.out 0
           have hfz94_1 := blk_frozen BK133.out 1
           have hfz94_2 := blk_frozen BK133.out 2
           have hfz94_3 := blk_frozen BK133.out 3
           go_wp2_with (first | (go_at_call 31; (with_reducible refine (spec_l6In.calls ((rd_T60 l0_1 x4_2).f0) 0 6 true _ A17.out).mono ?_); rintro e w' ⟨rfl,⟨nd,rfl⟩⟩; (try first | exact ⟨rfl,_,World.drewN_drewN _ _ _⟩ | exact ⟨rfl,_,Eq.trans (World.drewN_drewN _ _ _) (congrArg (World.drewN _) (Nat.add_assoc _ _ _))⟩)) | (go_at_call 31; (with_reducible refine (spec_l6In.calls ((rd_T60 l0_1 x4_2).f1) 0 2 false _ A19.out).mono ?_); rintro e w' ⟨rfl,⟨nd,rfl⟩⟩; (try first | exact ⟨rfl,_,World.drewN_drewN _ _ _⟩ | exact ⟨rfl,_,Eq.trans (World.drewN_drewN _ _ _) (congrArg (World.drewN _) (Nat.add_assoc _ _ _))⟩)))
           repeat (go_quiet (first | (go_at_call 31; (with_reducible refine (spec_l6In.calls ((rd_T60 l0_1 x4_2).f0) 0 6 true _ A17.out).mono ?_); rintro e w' ⟨rfl,⟨nd,rfl⟩⟩; (try first | exact ⟨rfl,_,World.drewN_drewN _ _ _⟩ | exact ⟨rfl,_,Eq.trans (World.drewN_drewN _ _ _) (congrArg (World.drewN _) (Nat.add_assoc _ _ _))⟩)) | (go_at_call 31; (with_reducible refine (spec_l6In.calls ((rd_T60 l0_1 x4_2).f1) 0 2 false _ A19.out).mono ?_); rintro e w' ⟨rfl,⟨nd,rfl⟩⟩; (try first | exact ⟨rfl,_,World.drewN_drewN _ _ _⟩ | exact ⟨rfl,_,Eq.trans (World.drewN_drewN _ _ _) (congrArg (World.drewN _) (Nat.add_assoc _ _ _))⟩))); try go_wp2_with (first | (go_at_call 31; (with_reducible refine (spec_l6In.calls ((rd_T60 l0_1 x4_2).f0) 0 6 true _ A17.out).mono ?_); rintro e w' ⟨rfl,⟨nd,rfl⟩⟩; (try first | exact ⟨rfl,_,World.drewN_drewN _ _ _⟩ | exact ⟨rfl,_,Eq.trans (World.drewN_drewN _ _ _) (congrArg (World.drewN _) (Nat.add_assoc _ _ _))⟩)) | (go_at_call 31; (with_reducible refine (spec_l6In.calls ((rd_T60 l0_1 x4_2).f1) 0 2 false _ A19.out).mono ?_); rintro e w' ⟨rfl,⟨nd,rfl⟩⟩; (try first | exact ⟨rfl,_,World.drewN_drewN _ _ _⟩ | exact ⟨rfl,_,Eq.trans (World.drewN_drewN _ _ _) (congrArg (World.drewN _) (Nat.add_assoc _ _ _))⟩))))
           go_meet
           case rel => exact ⟨_,(true),(by first | rfl | (simp; done) | (simp [*]; done)),H',⟨by have := HJ1.out; have := HK2.out; first | omega | exact Nat.le_refl _⟩,⟨by (with_reducible repeat (first | refine blk_drewN ?_ _ | refine blk_drew ?_ | refine blk_alloc ?_ _)); refine blk_far ?_ NB129_133.out _; (with_reducible repeat (first | refine blk_drewN ?_ _ | refine blk_drew ?_ | refine blk_alloc ?_ _)); refine blk_far ?_ NB129_133.out _; (with_reducible repeat (first | refine blk_drewN ?_ _ | refine blk_drew ?_ | refine blk_alloc ?_ _)); refine blk_far ?_ NB129_133.out _; (with_reducible repeat (first | refine blk_drewN ?_ _ | refine blk_drew ?_ | refine blk_alloc ?_ _)); refine blk_far ?_ NB129_133.out _; (with_reducible repeat (first | refine blk_drewN ?_ _ | refine blk_drew ?_ | refine blk_alloc ?_ _)); first | exact BK129.out | (simp only [*]; exact BK129.out)⟩,⟨by (with_reducible repeat (first | refine blk_drewN ?_ _ | refine blk_drew ?_ | refine blk_alloc ?_ _)); refine blk_put (cs := #[.int .i64 ((rd_T60 l0_1 x4_2).f0),.int .i64 ((rd_T60 l0_1 x4_2).f1),.int .i64 ((rd_T60 l0_1 x4_2).f2),.bool false]) ?_ 3 _ rfl; (with_reducible repeat (first | refine blk_drewN ?_ _ | refine blk_drew ?_ | refine blk_alloc ?_ _)); refine blk_put (cs := #[.int .i64 ((rd_T60 l0_1 x4_2).f0),.int .i64 ((rd_T60 l0_1 x4_2).f1),.int .i64 0,.bool false]) ?_ 2 _ rfl; (with_reducible repeat (first | refine blk_drewN ?_ _ | refine blk_drew ?_ | refine blk_alloc ?_ _)); refine blk_put (cs := #[.int .i64 ((rd_T60 l0_1 x4_2).f0),.int .i64 0,.int .i64 0,.bool false]) ?_ 1 _ rfl; (with_reducible repeat (first | refine blk_drewN ?_ _ | refine blk_drew ?_ | refine blk_alloc ?_ _)); refine blk_put (cs := #[.int .i64 0,.int .i64 0,.int .i64 0,.bool false]) ?_ 0 _ rfl; (with_reducible repeat (first | refine blk_drewN ?_ _ | refine blk_drew ?_ | refine blk_alloc ?_ _)); first | exact BK133.out | (simp only [*]; exact BK133.out)⟩,⟨by repeat (first | (with_reducible first | exact HB.out | apply below_alloc | apply pw_below_drewN | apply below_drew1 | refine below_set ?_ GE129.out | refine below_set ?_ GE133.out) | exact HB.out)⟩⟩
         ·replace c18 := Bool.eq_false_iff.mpr c18
          subst c18
          have H1 : (spec_LockOk.j2 k2 x3_2 x4_2 true a0_0 l0_1 l0_2 ((rd_T60 l0_1 x4_2).f0) ((rd_T60 l0_1 x4_2).f1) ((rd_T60 l0_1 x4_2).f2) ((rd_T60 l0_1 x4_2).f3)) = some r := by rw [if_neg (show ¬ (false = true) by decide)] at H; exact H
          clear H
          have H := H1
          clear H1
          have H' := Aside0.mk H
          clear H
          have hnb95 := NB133_129.out
          have hnc95 := NB129_133.out
          have hcz96_0 : w14.cell? ⟨gb133,0,none⟩ = some (.int .i64 0) := (blk_cell BK133.out 0).trans rfl
          have hcz96_1 : w14.cell? ⟨gb133,1,none⟩ = some (.int .i64 0) := (blk_cell BK133.out 1).trans rfl
          have hcz96_2 : w14.cell? ⟨gb133,2,none⟩ = some (.int .i64 0) := (blk_cell BK133.out 2).trans rfl
          have hcz96_3 : w14.cell? ⟨gb133,3,none⟩ = some (.bool false) := (blk_cell BK133.out 3).trans rfl
          have hfz96_0 := blk_frozen BK133.out 0
          have hfz96_1 := blk_frozen BK133.out 1
          have hfz96_2 := blk_frozen BK133.out 2
          have hfz96_3 := blk_frozen BK133.out 3
          go_wp2_with (first | (go_at_call 31; (with_reducible refine (spec_l6In.calls ((rd_T60 l0_1 x4_2).f0) 0 6 false _ A17.out).mono ?_); rintro e w' ⟨rfl,⟨nd,rfl⟩⟩; (try first | exact ⟨rfl,_,World.drewN_drewN _ _ _⟩ | exact ⟨rfl,_,Eq.trans (World.drewN_drewN _ _ _) (congrArg (World.drewN _) (Nat.add_assoc _ _ _))⟩)))
          repeat (go_quiet (first | (go_at_call 31; (with_reducible refine (spec_l6In.calls ((rd_T60 l0_1 x4_2).f0) 0 6 false _ A17.out).mono ?_); rintro e w' ⟨rfl,⟨nd,rfl⟩⟩; (try first | exact ⟨rfl,_,World.drewN_drewN _ _ _⟩ | exact ⟨rfl,_,Eq.trans (World.drewN_drewN _ _ _) (congrArg (World.drewN _) (Nat.add_assoc _ _ _))⟩))); try go_wp2_with (first | (go_at_call 31; (with_reducible refine (spec_l6In.calls ((rd_T60 l0_1 x4_2).f0) 0 6 false _ A17.out).mono ?_); rintro e w' ⟨rfl,⟨nd,rfl⟩⟩; (try first | exact ⟨rfl,_,World.drewN_drewN _ _ _⟩ | exact ⟨rfl,_,Eq.trans (World.drewN_drewN _ _ _) (congrArg (World.drewN _) (Nat.add_assoc _ _ _))⟩))))
          go_meet
          case rel => exact ⟨_,(true),(by first | rfl | (simp; done) | (simp [*]; done)),H',⟨by have := HJ1.out; have := HK2.out; first | omega | exact Nat.le_refl _⟩,⟨by (with_reducible repeat (first | refine blk_drewN ?_ _ | refine blk_drew ?_ | refine blk_alloc ?_ _)); refine blk_far ?_ NB129_133.out _; (with_reducible repeat (first | refine blk_drewN ?_ _ | refine blk_drew ?_ | refine blk_alloc ?_ _)); refine blk_far ?_ NB129_133.out _; (with_reducible repeat (first | refine blk_drewN ?_ _ | refine blk_drew ?_ | refine blk_alloc ?_ _)); refine blk_far ?_ NB129_133.out _; (with_reducible repeat (first | refine blk_drewN ?_ _ | refine blk_drew ?_ | refine blk_alloc ?_ _)); refine blk_far ?_ NB129_133.out _; (with_reducible repeat (first | refine blk_drewN ?_ _ | refine blk_drew ?_ | refine blk_alloc ?_ _)); first | exact BK129.out | (simp only [*]; exact BK129.out)⟩,⟨by (with_reducible repeat (first | refine blk_drewN ?_ _ | refine blk_drew ?_ | refine blk_alloc ?_ _)); refine blk_put (cs := #[.int .i64 ((rd_T60 l0_1 x4_2).f0),.int .i64 ((rd_T60 l0_1 x4_2).f1),.int .i64 ((rd_T60 l0_1 x4_2).f2),.bool false]) ?_ 3 _ rfl; (with_reducible repeat (first | refine blk_drewN ?_ _ | refine blk_drew ?_ | refine blk_alloc ?_ _)); refine blk_put (cs := #[.int .i64 ((rd_T60 l0_1 x4_2).f0),.int .i64 ((rd_T60 l0_1 x4_2).f1),.int .i64 0,.bool false]) ?_ 2 _ rfl; (with_reducible repeat (first | refine blk_drewN ?_ _ | refine blk_drew ?_ | refine blk_alloc ?_ _)); refine blk_put (cs := #[.int .i64 ((rd_T60 l0_1 x4_2).f0),.int .i64 0,.int .i64 0,.bool false]) ?_ 1 _ rfl; (with_reducible repeat (first | refine blk_drewN ?_ _ | refine blk_drew ?_ | refine blk_alloc ?_ _)); refine blk_put (cs := #[.int .i64 0,.int .i64 0,.int .i64 0,.bool false]) ?_ 0 _ rfl; (with_reducible repeat (first | refine blk_drewN ?_ _ | refine blk_drew ?_ | refine blk_alloc ?_ _)); first | exact BK133.out | (simp only [*]; exact BK133.out)⟩,⟨by repeat (first | (with_reducible first | exact HB.out | apply below_alloc | apply pw_below_drewN | apply below_drew1 | refine below_set ?_ GE129.out | refine below_set ?_ GE133.out) | exact HB.out)⟩⟩
        case rest =>
         clear HC12
         try clear c1
         try clear p1
         try clear q1
         try clear hx1
         try clear c2
         try clear p2
         try clear q2
         try clear c3
         try clear c4
         try clear q4
         try clear c5
         try clear c6
         try clear q6
         try clear c7
         try clear q7
         try clear c8
         try clear c9
         try clear c10
         try clear c10b0
         try clear c11
         try clear c11b0
         try clear p13
         try clear q13
         try clear hx13
         try clear c15
         try clear c18
         try clear c20
         try clear c21
         try clear c21b0
         try clear c21b1
         try clear c23
         try clear c24
         try clear c24b0
         try clear c25
         try clear c25b0
         try clear c25b1
         try clear c26
         try clear q28
         try clear c29
         try clear c30
         try clear c30b0
         try clear c30b1
         try clear c32
         try clear c35
         try clear c38
         try clear q41
         try clear c42
         try clear c43
         try clear c43b0
         try clear c43b1
         try clear c45
         try clear c48
         try clear c51
         try clear c54
         try clear c56
         try clear c56b0
         try clear c56b1
         try clear c58
         try clear c59
         try clear c59b0
         try clear c60
         try clear c60b0
         try clear c60b1
         try clear c61
         try clear q63
         try clear c64
         try clear c65
         try clear c65b0
         try clear c65b1
         try clear c67
         try clear c70
         try clear c73
         try clear q76
         try clear c77
         try clear c78
         try clear c78b0
         try clear c78b1
         try clear c80
         try clear c83
         try clear c86
         try clear c89
         try clear c91
         try clear c93
         try clear c95
         try clear hcz13_0
         try clear hcz13_1
         try clear hcz13_2
         try clear hcz16_0
         try clear hcz16_1
         try clear hcz16_2
         try clear hcz16_3
         try clear hcz27_0
         try clear hcz27_1
         try clear hcz27_2
         try clear hcz27_3
         try clear hcz33_0
         try clear hcz33_1
         try clear hcz33_2
         try clear hcz33_3
         try clear hcz34_0
         try clear hcz34_1
         try clear hcz34_2
         try clear hcz36_0
         try clear hcz36_1
         try clear hcz36_2
         try clear hcz36_3
         try clear hcz39_0
         try clear hcz39_1
         try clear hcz39_2
         try clear hcz39_3
         try clear hcz40_0
         try clear hcz40_1
         try clear hcz40_2
         try clear hcz46_0
         try clear hcz46_1
         try clear hcz46_2
         try clear hcz46_3
         try clear hcz47_0
         try clear hcz47_1
         try clear hcz47_2
         try clear hcz49_0
         try clear hcz49_1
         try clear hcz49_2
         try clear hcz49_3
         try clear hcz52_0
         try clear hcz52_1
         try clear hcz52_2
         try clear hcz52_3
         try clear hcz53_0
         try clear hcz53_1
         try clear hcz53_2
         try clear hcz55_0
         try clear hcz55_1
         try clear hcz55_2
         try clear hcz55_3
         try clear hcz62_0
         try clear hcz62_1
         try clear hcz62_2
         try clear hcz62_3
         try clear hcz68_0
         try clear hcz68_1
         try clear hcz68_2
         try clear hcz68_3
         try clear hcz69_0
         try clear hcz69_1
         try clear hcz69_2
         try clear hcz71_0
         try clear hcz71_1
         try clear hcz71_2
         try clear hcz71_3
         try clear hcz74_0
         try clear hcz74_1
         try clear hcz74_2
         try clear hcz74_3
         try clear hcz75_0
         try clear hcz75_1
         try clear hcz75_2
         try clear hcz81_0
         try clear hcz81_1
         try clear hcz81_2
         try clear hcz81_3
         try clear hcz82_0
         try clear hcz82_1
         try clear hcz82_2
         try clear hcz84_0
         try clear hcz84_1
         try clear hcz84_2
         try clear hcz84_3
         try clear hcz87_0
         try clear hcz87_1
         try clear hcz87_2
         try clear hcz87_3
         try clear hcz88_0
         try clear hcz88_1
         try clear hcz88_2
         try clear hcz90_0
         try clear hcz90_1
         try clear hcz90_2
         try clear hcz90_3
         try clear hcz92_0
         try clear hcz92_1
         try clear hcz92_2
         try clear hcz92_3
         try clear hcz94_0
         try clear hcz94_1
         try clear hcz94_2
         try clear hcz94_3
         try clear hcz96_0
         try clear hcz96_1
         try clear hcz96_2
         try clear hcz96_3
         try clear hfz13_0
         try clear hfz13_1
         try clear hfz13_2
         try clear hfz16_0
         try clear hfz16_1
         try clear hfz16_2
         try clear hfz16_3
         try clear hfz27_0
         try clear hfz27_1
         try clear hfz27_2
         try clear hfz27_3
         try clear hfz33_0
         try clear hfz33_1
         try clear hfz33_2
         try clear hfz33_3
         try clear hfz34_0
         try clear hfz34_1
         try clear hfz34_2
         try clear hfz36_0
         try clear hfz36_1
         try clear hfz36_2
         try clear hfz36_3
         try clear hfz39_0
         try clear hfz39_1
         try clear hfz39_2
         try clear hfz39_3
         try clear hfz40_0
         try clear hfz40_1
         try clear hfz40_2
         try clear hfz46_0
         try clear hfz46_1
         try clear hfz46_2
         try clear hfz46_3
         try clear hfz47_0
         try clear hfz47_1
         try clear hfz47_2
         try clear hfz49_0
         try clear hfz49_1
         try clear hfz49_2
         try clear hfz49_3
         try clear hfz52_0
         try clear hfz52_1
         try clear hfz52_2
         try clear hfz52_3
         try clear hfz53_0
         try clear hfz53_1
         try clear hfz53_2
         try clear hfz55_0
         try clear hfz55_1
         try clear hfz55_2
         try clear hfz55_3
         try clear hfz62_0
         try clear hfz62_1
         try clear hfz62_2
         try clear hfz62_3
         try clear hfz68_0
         try clear hfz68_1
         try clear hfz68_2
         try clear hfz68_3
         try clear hfz69_0
         try clear hfz69_1
         try clear hfz69_2
         try clear hfz71_0
         try clear hfz71_1
         try clear hfz71_2
         try clear hfz71_3
         try clear hfz74_0
         try clear hfz74_1
         try clear hfz74_2
         try clear hfz74_3
         try clear hfz75_0
         try clear hfz75_1
         try clear hfz75_2
         try clear hfz81_0
         try clear hfz81_1
         try clear hfz81_2
         try clear hfz81_3
         try clear hfz82_0
         try clear hfz82_1
         try clear hfz82_2
         try clear hfz84_0
         try clear hfz84_1
         try clear hfz84_2
         try clear hfz84_3
         try clear hfz87_0
         try clear hfz87_1
         try clear hfz87_2
         try clear hfz87_3
         try clear hfz88_0
         try clear hfz88_1
         try clear hfz88_2
         try clear hfz8_2
         try clear hfz90_0
         try clear hfz90_1
         try clear hfz90_2
         try clear hfz90_3
         try clear hfz92_0
         try clear hfz92_1
         try clear hfz92_2
         try clear hfz92_3
         try clear hfz94_0
         try clear hfz94_1
         try clear hfz94_2
         try clear hfz94_3
         try clear hfz96_0
         try clear hfz96_1
         try clear hfz96_2
         try clear hfz96_3
         try clear hx132_0
         try clear hx132_1
         try clear hx132_2
         try clear hx132_3
         try clear p132
         try clear p2
         try clear q132
         obtain ⟨kq,x82_11,rfl,HA,HJ11,BK129,BK133,HB⟩ := hcut
         cases kq with
         | zero => exact absurd HA.out (by simp [spec_LockOk.j2])
         | succ kj11 =>
          have H := HA.out
          clear HA
          simp only [spec_LockOk.j2] at H
          by_cases c97 : x82_11 = true
          ·subst c97
           have H1 : (some false) = some r := by rw [if_pos rfl] at H; exact H
           clear H
           have H := H1
           clear H1
           obtain rfl := Option.some.inj H
           simp only [Option.some.injEq,Prod.mk.injEq] at H
           obtain ⟨rfl⟩ := H
           go_wp2
           repeat (go_quiet (fail); try go_wp2)
           go_ret
           exact ⟨by first | rfl | (simp [errW_none,errW_some] <;> rfl) | (simp [*,errW_none,errW_some] <;> rfl),by repeat (first | (with_reducible first | exact HB.out | apply below_alloc | apply pw_below_drewN | apply below_drew1 | refine below_set ?_ GE129.out | refine below_set ?_ GE133.out) | exact HB.out)⟩
          ·replace c97 := Bool.eq_false_iff.mpr c97
           subst c97
           have H1 : (if ((rd_T60 l0_1 x4_2).f3) = true then (spec_LockOk.l0 kj11 (wrap64 (x3_2 + 1)) (wrap64 (x4_2 + 1)) a0_0 l0_1 l0_2) else (spec_LockOk.l0 kj11 x3_2 (wrap64 (x4_2 + 1)) a0_0 l0_1 l0_2)) = some r := by rw [if_neg (show ¬ (false = true) by decide)] at H; exact H
           clear H
           have H := H1
           clear H1
           by_cases c98 : ((rd_T60 l0_1 x4_2).f3) = true
           ·rw [if_pos c98] at H
            have c98b0 : ((rd_T60 l0_1 x4_2).f3) = true := c98
            clear c98
            have H' := Aside0.mk H
            clear H
            have hnb99 := NB133_129.out
            have hnc99 := NB129_133.out
            have hcz100_0 : wc.cell? ⟨gb133,0,none⟩ = some (.int .i64 ((rd_T60 l0_1 x4_2).f0)) := (blk_cell BK133.out 0).trans rfl
            have hcz100_1 : wc.cell? ⟨gb133,1,none⟩ = some (.int .i64 ((rd_T60 l0_1 x4_2).f1)) := (blk_cell BK133.out 1).trans rfl
            have hcz100_2 : wc.cell? ⟨gb133,2,none⟩ = some (.int .i64 ((rd_T60 l0_1 x4_2).f2)) := (blk_cell BK133.out 2).trans rfl
            have hcz100_3 : wc.cell? ⟨gb133,3,none⟩ = some (.bool ((rd_T60 l0_1 x4_2).f3)) := (blk_cell BK133.out 3).trans rfl
            have hfz100_0 := blk_frozen BK133.out 0
            have hfz100_1 := blk_frozen BK133.out 1
            have hfz100_2 := blk_frozen BK133.out 2
            have hfz100_3 := blk_frozen BK133.out 3
            go_wp2
            repeat (go_quiet (fail); try go_wp2)
            go_roundg kj11
            case measure => have := HJ1.out; have := HK2.out; have := HJ11.out; omega
            case rel => exact ⟨(wrap64 (x3_2 + 1)),(wrap64 (x4_2 + 1)),(by first | rfl | (simp; done) | (simp [*]; done)),(by first | rfl | (simp; done) | (simp [*]; done)),H',⟨by have := HJ1.out; have := HK2.out; have := HJ11.out; omega⟩,⟨by (with_reducible repeat (first | refine blk_drewN ?_ _ | refine blk_drew ?_ | refine blk_alloc ?_ _)); first | exact BK129.out | (simp only [*]; exact BK129.out)⟩,⟨by repeat (first | (with_reducible first | exact HB.out | apply below_alloc | apply pw_below_drewN | apply below_drew1 | refine below_set ?_ GE129.out | refine below_set ?_ GE133.out) | exact HB.out)⟩⟩
           ·rw [if_neg c98] at H
            have c98b0 : ((rd_T60 l0_1 x4_2).f3) = false := by simpa using c98
            clear c98
            have H' := Aside0.mk H
            clear H
            have hnb101 := NB133_129.out
            have hnc101 := NB129_133.out
            have hcz102_0 : wc.cell? ⟨gb133,0,none⟩ = some (.int .i64 ((rd_T60 l0_1 x4_2).f0)) := (blk_cell BK133.out 0).trans rfl
            have hcz102_1 : wc.cell? ⟨gb133,1,none⟩ = some (.int .i64 ((rd_T60 l0_1 x4_2).f1)) := (blk_cell BK133.out 1).trans rfl
            have hcz102_2 : wc.cell? ⟨gb133,2,none⟩ = some (.int .i64 ((rd_T60 l0_1 x4_2).f2)) := (blk_cell BK133.out 2).trans rfl
            have hcz102_3 : wc.cell? ⟨gb133,3,none⟩ = some (.bool ((rd_T60 l0_1 x4_2).f3)) := (blk_cell BK133.out 3).trans rfl
            have hfz102_0 := blk_frozen BK133.out 0
            have hfz102_1 := blk_frozen BK133.out 1
            have hfz102_2 := blk_frozen BK133.out 2
            have hfz102_3 := blk_frozen BK133.out 3
            go_wp2
            repeat (go_quiet (fail); try go_wp2)
            go_roundg kj11
            case measure => have := HJ1.out; have := HK2.out; have := HJ11.out; omega
            case rel => exact ⟨(x3_2),(wrap64 (x4_2 + 1)),(by first | rfl | (simp; done) | (simp [*]; done)),(by first | rfl | (simp; done) | (simp [*]; done)),H',⟨by have := HJ1.out; have := HK2.out; have := HJ11.out; omega⟩,⟨by (with_reducible repeat (first | refine blk_drewN ?_ _ | refine blk_drew ?_ | refine blk_alloc ?_ _)); first | exact BK129.out | (simp only [*]; exact BK129.out)⟩,⟨by repeat (first | (with_reducible first | exact HB.out | apply below_alloc | apply pw_below_drewN | apply below_drew1 | refine below_set ?_ GE129.out | refine below_set ?_ GE133.out) | exact HB.out)⟩⟩
       ·rw [if_neg c11] at H
        exact absurd H (by simp)
      ·rw [if_neg c10] at H
       have c10b0 : decide (x4_2 < (l0_1.length : Int)) = false := decide_eq_false c10
       clear c10
       obtain rfl := Option.some.inj H
       simp only [Option.some.injEq,Prod.mk.injEq] at H
       obtain ⟨rfl⟩ := H
       have hcz103_0 : wr.cell? ⟨gb129,0,none⟩ = some (.int .i64 a0_0) := (blk_cell BK129.out 0).trans rfl
       have hcz103_1 : wr.cell? ⟨gb129,1,none⟩ = some (.slice A0_1 l0_1.length c0_1) := (blk_cell BK129.out 1).trans rfl
       have hcz103_2 : wr.cell? ⟨gb129,2,none⟩ = some (.slice A0_2 l0_2.length c0_2) := (blk_cell BK129.out 2).trans rfl
       have hfz103_0 := blk_frozen BK129.out 0
       have hfz103_1 := blk_frozen BK129.out 1
       have hfz103_2 := blk_frozen BK129.out 2
       go_wp2
       repeat (go_quiet (fail); try go_wp2)
       go_ret
       exact ⟨by first | rfl | (simp [errW_none,errW_some] <;> rfl) | (simp [*,errW_none,errW_some] <;> rfl),by repeat (first | (with_reducible first | exact HB.out | apply below_alloc | apply pw_below_drewN | apply below_drew1 | refine below_set ?_ GE129.out) | exact HB.out)⟩

end Go.Proofs.Ytecniihieninjaa.XFnExactLockOk
