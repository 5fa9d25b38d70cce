-- Written by the kit's printer at the call of wip/tools/xprint.sh (this session's knobs and contracts). Not trusted: Lean checks it.
import Derived.Test.YtecniihieninjaaXFnExactLockOkx0
import Derived.Test.YtecniihieninjaaXFnExactLockOkx1
namespace Go.Proofs.Ytecniihieninjaa.XFnExactLockOk
open Go.RowKit Go.Proofs.YtecniihieninjaaW.PrintWords Go.Proofs.YtecniihieninjaaW.PrintLast Go.Proofs.YtecniihieninjaaW.PrintMore
attribute [local go_sem] max2_int min2_int max_two min_two max_three min_three max_four min_four   -- for this text's walks alone
set_option linter.unusedVariables false
set_option linter.unusedSimpArgs false

/-! ### impl_LockOk: function 12 -/
mutual
def impl_LockOk.j0 : Nat → Bool → Int → List (S60) → List Int → Option (Bool)
 | 0,_,_,_,_ => none
 | k + 1,x16,x104000,x104001,x104002 => if x16 = true then (some false) else (impl_LockOk.l0 k 0 x104001 (x104001.length : Int) 0 x104000 x104001 x104002)
def impl_LockOk.l0 : Nat → Int → List (S60) → Int → Int → Int → List (S60) → List Int → Option (Bool)
 | 0,_,_,_,_,_,_,_ => none
 | k + 1,x3,x18,x19,x20,x104000,x104001,x104002 => if x20 < x19 then (if 0 ≤ x20 then (if x20 < (x18.length : Int) then ((impl_in.f ((rd_T60 x18 x20).f0) 0 6).bind fun t108 => (if t108 = true then ((impl_in.f ((rd_T60 x18 x20).f1) 0 2).bind fun t109 => (if t109 = true then (if ((rd_T60 x18 x20).f1) > 0 then (if ((rd_T60 x18 x20).f0) = 1 then ((impl_in.f ((rd_T60 x18 x20).f2) 0 3).bind fun t110 => (if t110 = true then (if ((rd_T60 x18 x20).f0) > 0 then (if ((rd_T60 x18 x20).f2) = 0 then (impl_LockOk.j2 k x3 x20 x18 x19 x20 true x104000 x104001 x104002 ((rd_T60 x18 x20).f0) ((rd_T60 x18 x20).f1) ((rd_T60 x18 x20).f2) ((rd_T60 x18 x20).f3)) else (if (rd_T60 x18 x20).f3 = true then (impl_LockOk.j2 k x3 x20 x18 x19 x20 (((rd_T60 x18 x20).f0) != 3) x104000 x104001 x104002 ((rd_T60 x18 x20).f0) ((rd_T60 x18 x20).f1) ((rd_T60 x18 x20).f2) ((rd_T60 x18 x20).f3)) else (impl_LockOk.j2 k x3 x20 x18 x19 x20 false x104000 x104001 x104002 ((rd_T60 x18 x20).f0) ((rd_T60 x18 x20).f1) ((rd_T60 x18 x20).f2) ((rd_T60 x18 x20).f3)))) else (if (rd_T60 x18 x20).f3 = true then (impl_LockOk.j2 k x3 x20 x18 x19 x20 (((rd_T60 x18 x20).f0) != 3) x104000 x104001 x104002 ((rd_T60 x18 x20).f0) ((rd_T60 x18 x20).f1) ((rd_T60 x18 x20).f2) ((rd_T60 x18 x20).f3)) else (impl_LockOk.j2 k x3 x20 x18 x19 x20 false x104000 x104001 x104002 ((rd_T60 x18 x20).f0) ((rd_T60 x18 x20).f1) ((rd_T60 x18 x20).f2) ((rd_T60 x18 x20).f3)))) else (impl_LockOk.j2 k x3 x20 x18 x19 x20 true x104000 x104001 x104002 ((rd_T60 x18 x20).f0) ((rd_T60 x18 x20).f1) ((rd_T60 x18 x20).f2) ((rd_T60 x18 x20).f3)))) else (impl_LockOk.j2 k x3 x20 x18 x19 x20 true x104000 x104001 x104002 ((rd_T60 x18 x20).f0) ((rd_T60 x18 x20).f1) ((rd_T60 x18 x20).f2) ((rd_T60 x18 x20).f3))) else ((impl_in.f ((rd_T60 x18 x20).f2) 0 3).bind fun t111 => (if t111 = true then (if ((rd_T60 x18 x20).f0) > 0 then (if ((rd_T60 x18 x20).f2) = 0 then (impl_LockOk.j2 k x3 x20 x18 x19 x20 true x104000 x104001 x104002 ((rd_T60 x18 x20).f0) ((rd_T60 x18 x20).f1) ((rd_T60 x18 x20).f2) ((rd_T60 x18 x20).f3)) else (if (rd_T60 x18 x20).f3 = true then (impl_LockOk.j2 k x3 x20 x18 x19 x20 (((rd_T60 x18 x20).f0) != 3) x104000 x104001 x104002 ((rd_T60 x18 x20).f0) ((rd_T60 x18 x20).f1) ((rd_T60 x18 x20).f2) ((rd_T60 x18 x20).f3)) else (impl_LockOk.j2 k x3 x20 x18 x19 x20 false x104000 x104001 x104002 ((rd_T60 x18 x20).f0) ((rd_T60 x18 x20).f1) ((rd_T60 x18 x20).f2) ((rd_T60 x18 x20).f3)))) else (if (rd_T60 x18 x20).f3 = true then (impl_LockOk.j2 k x3 x20 x18 x19 x20 (((rd_T60 x18 x20).f0) != 3) x104000 x104001 x104002 ((rd_T60 x18 x20).f0) ((rd_T60 x18 x20).f1) ((rd_T60 x18 x20).f2) ((rd_T60 x18 x20).f3)) else (impl_LockOk.j2 k x3 x20 x18 x19 x20 false x104000 x104001 x104002 ((rd_T60 x18 x20).f0) ((rd_T60 x18 x20).f1) ((rd_T60 x18 x20).f2) ((rd_T60 x18 x20).f3)))) else (impl_LockOk.j2 k x3 x20 x18 x19 x20 true x104000 x104001 x104002 ((rd_T60 x18 x20).f0) ((rd_T60 x18 x20).f1) ((rd_T60 x18 x20).f2) ((rd_T60 x18 x20).f3))))) else (impl_LockOk.j2 k x3 x20 x18 x19 x20 true x104000 x104001 x104002 ((rd_T60 x18 x20).f0) ((rd_T60 x18 x20).f1) ((rd_T60 x18 x20).f2) ((rd_T60 x18 x20).f3)))) else (impl_LockOk.j2 k x3 x20 x18 x19 x20 true x104000 x104001 x104002 ((rd_T60 x18 x20).f0) ((rd_T60 x18 x20).f1) ((rd_T60 x18 x20).f2) ((rd_T60 x18 x20).f3)))) else (none)) else (none)) else (some (x3 == (x104002.length : Int)))
def impl_LockOk.j2 : Nat → Int → Int → List (S60) → Int → Int → Bool → Int → List (S60) → List Int → Int → Int → Int → Bool → Option (Bool)
 | 0,_,_,_,_,_,_,_,_,_,_,_,_,_ => none
 | k + 1,x3,x4,x18,x19,x20,x69,x104000,x104001,x104002,x108000,x108001,x108002,x108003 => if x69 = true then (some false) else (if x108003 = true then ((slices_Contains_int_int.f k x104002 x4).bind fun t112 => (if (x108003 != t112) = true then (some false) else (impl_LockOk.l0 k (wrap64 (x3 + 1)) x18 x19 (wrap64 (x20 + 1)) x104000 x104001 x104002))) else ((slices_Contains_int_int.f k x104002 x4).bind fun t113 => (if (x108003 != t113) = true then (some false) else (impl_LockOk.l0 k x3 x18 x19 (wrap64 (x20 + 1)) x104000 x104001 x104002))))
end
def impl_LockOk.f (k : Nat) (a0_0 : Int) (l0_1 : List (S60)) (l0_2 : List Int) : Option (Bool) := (impl_in.f a0_0 0 2).bind fun t104 => (if t104 = true then ((impl_in.f (l0_1.length : Int) 1 4).bind fun t105 => (impl_LockOk.j0 k (!t105) a0_0 l0_1 l0_2)) else (impl_LockOk.j0 k true a0_0 l0_1 l0_2))
theorem impl_LockOk.mono_l : ∀ k,(∀ y0 y1 y2 y3,LeO (impl_LockOk.j0 k y0 y1 y2 y3) (impl_LockOk.j0 (k + 1) y0 y1 y2 y3)) ∧ (∀ y0 y1 y2 y3 y4 y5 y6,LeO (impl_LockOk.l0 k y0 y1 y2 y3 y4 y5 y6) (impl_LockOk.l0 (k + 1) y0 y1 y2 y3 y4 y5 y6)) ∧ (∀ y0 y1 y2 y3 y4 y5 y6 y7 y8 y9 y10 y11 y12,LeO (impl_LockOk.j2 k y0 y1 y2 y3 y4 y5 y6 y7 y8 y9 y10 y11 y12) (impl_LockOk.j2 (k + 1) y0 y1 y2 y3 y4 y5 y6 y7 y8 y9 y10 y11 y12))
 | 0 => ⟨fun _ _ _ _ r h => by simp [impl_LockOk.j0] at h,fun _ _ _ _ _ _ _ r h => by simp [impl_LockOk.l0] at h,fun _ _ _ _ _ _ _ _ _ _ _ _ _ r h => by simp [impl_LockOk.j2] at h⟩
 | k + 1 => by
  obtain ⟨ih0,ih1,ih2⟩ := impl_LockOk.mono_l k
  refine ⟨?_,?_,?_⟩
  ·intro y0 y1 y2 y3
   unfold impl_LockOk.j0
   repeat' first
   | (with_reducible exact ih0 _ _ _ _)
   | (with_reducible exact ih1 _ _ _ _ _ _ _)
   | (with_reducible exact ih2 _ _ _ _ _ _ _ _ _ _ _ _ _)
   | (with_reducible exact slices_Contains_int_int.mono _ _ _)
   | (with_reducible exact LeO.refl _)
   | (with_reducible exact LeO.none _)
   | (with_reducible refine LeO.ite ?_ ?_)
   | (with_reducible refine LeO.bind ?_ (fun _ => ?_))
   | exact ih0 _ _ _ _
   | exact ih1 _ _ _ _ _ _ _
   | exact ih2 _ _ _ _ _ _ _ _ _ _ _ _ _
   | exact slices_Contains_int_int.mono _ _ _
   | exact LeO.none _
   | refine LeO.ite ?_ ?_
   | refine LeO.bind ?_ (fun _ => ?_)
  ·intro y0 y1 y2 y3 y4 y5 y6
   unfold impl_LockOk.l0
   repeat' first
   | (with_reducible exact ih0 _ _ _ _)
   | (with_reducible exact ih1 _ _ _ _ _ _ _)
   | (with_reducible exact ih2 _ _ _ _ _ _ _ _ _ _ _ _ _)
   | (with_reducible exact slices_Contains_int_int.mono _ _ _)
   | (with_reducible exact LeO.refl _)
   | (with_reducible exact LeO.none _)
   | (with_reducible refine LeO.ite ?_ ?_)
   | (with_reducible refine LeO.bind ?_ (fun _ => ?_))
   | exact ih0 _ _ _ _
   | exact ih1 _ _ _ _ _ _ _
   | exact ih2 _ _ _ _ _ _ _ _ _ _ _ _ _
   | exact slices_Contains_int_int.mono _ _ _
   | exact LeO.none _
   | refine LeO.ite ?_ ?_
   | refine LeO.bind ?_ (fun _ => ?_)
  ·intro y0 y1 y2 y3 y4 y5 y6 y7 y8 y9 y10 y11 y12
   unfold impl_LockOk.j2
   repeat' first
   | (with_reducible exact ih0 _ _ _ _)
   | (with_reducible exact ih1 _ _ _ _ _ _ _)
   | (with_reducible exact ih2 _ _ _ _ _ _ _ _ _ _ _ _ _)
   | (with_reducible exact slices_Contains_int_int.mono _ _ _)
   | (with_reducible exact LeO.refl _)
   | (with_reducible exact LeO.none _)
   | (with_reducible refine LeO.ite ?_ ?_)
   | (with_reducible refine LeO.bind ?_ (fun _ => ?_))
   | exact ih0 _ _ _ _
   | exact ih1 _ _ _ _ _ _ _
   | exact ih2 _ _ _ _ _ _ _ _ _ _ _ _ _
   | exact slices_Contains_int_int.mono _ _ _
   | exact LeO.none _
   | refine LeO.ite ?_ ?_
   | refine LeO.bind ?_ (fun _ => ?_)
theorem impl_LockOk.mono : ∀ a0 a1 a2 k,LeO (impl_LockOk.f k a0 a1 a2) (impl_LockOk.f (k + 1) a0 a1 a2) := by
 intro a0 a1 a2 k
 obtain ⟨ih0,ih1,ih2⟩ := impl_LockOk.mono_l k
 unfold impl_LockOk.f
 repeat' first
   | (with_reducible exact ih0 _ _ _ _)
   | (with_reducible exact ih1 _ _ _ _ _ _ _)
   | (with_reducible exact ih2 _ _ _ _ _ _ _ _ _ _ _ _ _)
   | (with_reducible exact slices_Contains_int_int.mono _ _ _)
   | (with_reducible exact LeO.refl _)
   | (with_reducible exact LeO.none _)
   | (with_reducible refine LeO.ite ?_ ?_)
   | (with_reducible refine LeO.bind ?_ (fun _ => ?_))
   | exact ih0 _ _ _ _
   | exact ih1 _ _ _ _ _ _ _
   | exact ih2 _ _ _ _ _ _ _ _ _ _ _ _ _
   | exact slices_Contains_int_int.mono _ _ _
   | exact LeO.none _
   | refine LeO.ite ?_ ?_
   | refine LeO.bind ?_ (fun _ => ?_)
set_option maxHeartbeats 8000000 in
set_option maxRecDepth 100000 in
theorem impl_LockOk.calls (k : Nat) (a0_0 : Int) (A0_1 : Option Addr) (c0_1 : Nat) (l0_1 : List (S60)) (A0_2 : Option Addr) (c0_2 : Nat) (l0_2 : List Int) (r : Bool) (w : World) (hr0_1 : Kd.C k60 w A0_1 l0_1.length l0_1) (hc0_1 : l0_1.length ≤ c0_1) (hr0_2 : Kd.C (Kd.int .i64) w A0_2 l0_2.length l0_2) (hc0_2 : l0_2.length ≤ c0_2) (h : impl_LockOk.f k a0_0 l0_1 l0_2 = some r) :
  Calls Try.prog 12 #[.agg #[.int .i64 a0_0,.slice A0_1 l0_1.length c0_1,.slice A0_2 l0_2.length c0_2]] w fun e w' => e = .returned (.bool r) ∧ Below w.heap.size w w' := by
 have hu28 := Try.underlying28
 have hu60 := Try.underlying60
 have HR0_1 := Aside0.mk hr0_1
 have HC0_1 := Aside0.mk hc0_1
 clear hr0_1 hc0_1
 have HR0_2 := Aside0.mk hr0_2
 have HC0_2 := Aside0.mk hc0_2
 clear hr0_2 hc0_2
 have HB := Aside0.mk (Below.refl w.heap.size w)
 have H : ((impl_in.f a0_0 0 2).bind fun t104 => (if t104 = true then ((impl_in.f (l0_1.length : Int) 1 4).bind fun t105 => (impl_LockOk.j0 k (!t105) a0_0 l0_1 l0_2)) else (impl_LockOk.j0 k true a0_0 l0_1 l0_2))) = some r := h
 clear h
 have HC2 := Aside0.mk H
 clear H
 go_enter Try.func12,Try.ntmps12
 go_upto_region 1 with (first | ((with_reducible refine gate_dst (N := 1) rfl ?_); (try (refine gate_guard (by rfl) ?_; dsimp only)); refine box_event ?hg (N := 1) ?hd (cs := #[.int .i64 a0_0,.slice A0_1 l0_1.length c0_1,.slice A0_2 l0_2.length c0_2]) (t := 28) ?hr ?_; (case hd => rfl); (case hg => rfl); (case hr => first | (go_simp; done) | (go_simp; rfl)); intro gb103 hg w3 hbox hb; have n0_ := Aside0.mk (below_step (by repeat (first | (with_reducible first | exact HB.out | apply below_alloc | apply pw_below_drewN | apply below_drew1) | exact HB.out)) hb); have n1_ := Aside0.mk (hbox); have n2_ := Aside0.mk ((by rw [hg]; exact (below_size (by repeat (first | (with_reducible first | exact HB.out | apply below_alloc | apply pw_below_drewN | apply below_drew1) | exact HB.out))) : w.heap.size ≤ gb103)); have n3_ := Aside0.mk ((by rw [hg]; exact (below_size (by repeat (first | (with_reducible first | exact HB.out | apply below_alloc | apply pw_below_drewN | apply below_drew1) | exact HB.out))) : w.heap.size ≤ gb103)); clear HB; have HB := n0_; have BK103 := n1_; have GW103 := n2_; have GE103 := n3_; clear n0_ n1_ n2_ n3_; clear hb hbox hg))
 repeat (go_quiet (first | ((with_reducible refine gate_dst (N := 1) rfl ?_); (try (refine gate_guard (by rfl) ?_; dsimp only)); refine box_event ?hg (N := 1) ?hd (cs := #[.int .i64 a0_0,.slice A0_1 l0_1.length c0_1,.slice A0_2 l0_2.length c0_2]) (t := 28) ?hr ?_; (case hd => rfl); (case hg => rfl); (case hr => first | (go_simp; done) | (go_simp; rfl)); intro gb103 hg w3 hbox hb; have n0_ := Aside0.mk (below_step (by repeat (first | (with_reducible first | exact HB.out | apply below_alloc | apply pw_below_drewN | apply below_drew1) | exact HB.out)) hb); have n1_ := Aside0.mk (hbox); have n2_ := Aside0.mk ((by rw [hg]; exact (below_size (by repeat (first | (with_reducible first | exact HB.out | apply below_alloc | apply pw_below_drewN | apply below_drew1) | exact HB.out))) : w.heap.size ≤ gb103)); have n3_ := Aside0.mk ((by rw [hg]; exact (below_size (by repeat (first | (with_reducible first | exact HB.out | apply below_alloc | apply pw_below_drewN | apply below_drew1) | exact HB.out))) : w.heap.size ≤ gb103)); clear HB; have HB := n0_; have BK103 := n1_; have GW103 := n2_; have GE103 := n3_; clear n0_ n1_ n2_ n3_; clear hb hbox hg)); go_upto_region 1 with (first | ((with_reducible refine gate_dst (N := 1) rfl ?_); (try (refine gate_guard (by rfl) ?_; dsimp only)); refine box_event ?hg (N := 1) ?hd (cs := #[.int .i64 a0_0,.slice A0_1 l0_1.length c0_1,.slice A0_2 l0_2.length c0_2]) (t := 28) ?hr ?_; (case hd => rfl); (case hg => rfl); (case hr => first | (go_simp; done) | (go_simp; rfl)); intro gb103 hg w3 hbox hb; have n0_ := Aside0.mk (below_step (by repeat (first | (with_reducible first | exact HB.out | apply below_alloc | apply pw_below_drewN | apply below_drew1) | exact HB.out)) hb); have n1_ := Aside0.mk (hbox); have n2_ := Aside0.mk ((by rw [hg]; exact (below_size (by repeat (first | (with_reducible first | exact HB.out | apply below_alloc | apply pw_below_drewN | apply below_drew1) | exact HB.out))) : w.heap.size ≤ gb103)); have n3_ := Aside0.mk ((by rw [hg]; exact (below_size (by repeat (first | (with_reducible first | exact HB.out | apply below_alloc | apply pw_below_drewN | apply below_drew1) | exact HB.out))) : w.heap.size ≤ gb103)); clear HB; have HB := n0_; have BK103 := n1_; have GW103 := n2_; have GE103 := n3_; clear n0_ n1_ n2_ n3_; clear hb hbox hg)))
 (try simp only [Act.put,List.setIfInBounds_toArray,List.set_cons_zero,List.set_cons_succ])
 go_cut [16] (fun v16 wc => ∃ (kq : Nat) (x16_1 : Bool),v16 = .bool x16_1 ∧ Aside0 (impl_LockOk.j0 kq x16_1 a0_0 l0_1 l0_2 = some r) ∧ Aside0 (kq ≤ k) ∧ Aside0 (wc.heap[gb103]? = some (.cells #[.int .i64 a0_0,(.slice A0_1 l0_1.length c0_1),(.slice A0_2 l0_2.length c0_2)] 28 (0,0))) ∧ Aside0 (Below w.heap.size w wc))
 case first =>
  have H := HC2.out
  clear HC2
  replace H := Option.bind_eq_some_iff.mp H
  obtain ⟨t104,A40,H⟩ := H
  replace H : (if t104 = true then ((impl_in.f (l0_1.length : Int) 1 4).bind fun t105 => (impl_LockOk.j0 k (!t105) a0_0 l0_1 l0_2)) else (impl_LockOk.j0 k true a0_0 l0_1 l0_2)) = some r := H
  have A4 := Aside0.mk A40
  clear A40
  by_cases c5 : t104 = true
  ·subst c5
   have H1 : ((impl_in.f (l0_1.length : Int) 1 4).bind fun t105 => (impl_LockOk.j0 k (!t105) a0_0 l0_1 l0_2)) = some r := by rw [if_pos rfl] at H; exact H
   clear H
   have H := H1
   clear H1
   replace H := Option.bind_eq_some_iff.mp H
   obtain ⟨t105,A60,H⟩ := H
   replace H : (impl_LockOk.j0 k (!t105) a0_0 l0_1 l0_2) = some r := H
   have A6 := Aside0.mk A60
   clear A60
   have H' := Aside0.mk H
   clear H
   have hcz7_0 : w3.cell? ⟨gb103,0,none⟩ = some (.int .i64 a0_0) := (blk_cell BK103.out 0).trans rfl
   have hcz7_1 : w3.cell? ⟨gb103,1,none⟩ = some (.slice A0_1 l0_1.length c0_1) := (blk_cell BK103.out 1).trans rfl
   have hcz7_2 : w3.cell? ⟨gb103,2,none⟩ = some (.slice A0_2 l0_2.length c0_2) := (blk_cell BK103.out 2).trans rfl
   have hfz7_0 := blk_frozen BK103.out 0
   have hfz7_1 := blk_frozen BK103.out 1
   have hfz7_2 := blk_frozen BK103.out 2
   go_wp2_with (first | (go_at_call 30; (with_reducible refine (impl_in.calls a0_0 0 2 true _ A4.out).mono ?_); rintro e w' ⟨rfl,⟨nd,rfl⟩⟩; (try first | exact ⟨rfl,_,World.drewN_drewN _ _ _⟩ | exact ⟨rfl,_,Eq.trans (World.drewN_drewN _ _ _) (congrArg (World.drewN _) (Nat.add_assoc _ _ _))⟩)) | (go_at_call 30; (with_reducible refine (impl_in.calls (l0_1.length : Int) 1 4 t105 _ A6.out).mono ?_); rintro e w' ⟨rfl,⟨nd,rfl⟩⟩; (try first | exact ⟨rfl,_,World.drewN_drewN _ _ _⟩ | exact ⟨rfl,_,Eq.trans (World.drewN_drewN _ _ _) (congrArg (World.drewN _) (Nat.add_assoc _ _ _))⟩)))
   repeat (go_quiet (first | (go_at_call 30; (with_reducible refine (impl_in.calls a0_0 0 2 true _ A4.out).mono ?_); rintro e w' ⟨rfl,⟨nd,rfl⟩⟩; (try first | exact ⟨rfl,_,World.drewN_drewN _ _ _⟩ | exact ⟨rfl,_,Eq.trans (World.drewN_drewN _ _ _) (congrArg (World.drewN _) (Nat.add_assoc _ _ _))⟩)) | (go_at_call 30; (with_reducible refine (impl_in.calls (l0_1.length : Int) 1 4 t105 _ A6.out).mono ?_); rintro e w' ⟨rfl,⟨nd,rfl⟩⟩; (try first | exact ⟨rfl,_,World.drewN_drewN _ _ _⟩ | exact ⟨rfl,_,Eq.trans (World.drewN_drewN _ _ _) (congrArg (World.drewN _) (Nat.add_assoc _ _ _))⟩))); try go_wp2_with (first | (go_at_call 30; (with_reducible refine (impl_in.calls a0_0 0 2 true _ A4.out).mono ?_); rintro e w' ⟨rfl,⟨nd,rfl⟩⟩; (try first | exact ⟨rfl,_,World.drewN_drewN _ _ _⟩ | exact ⟨rfl,_,Eq.trans (World.drewN_drewN _ _ _) (congrArg (World.drewN _) (Nat.add_assoc _ _ _))⟩)) | (go_at_call 30; (with_reducible refine (impl_in.calls (l0_1.length : Int) 1 4 t105 _ A6.out).mono ?_); rintro e w' ⟨rfl,⟨nd,rfl⟩⟩; (try first | exact ⟨rfl,_,World.drewN_drewN _ _ _⟩ | exact ⟨rfl,_,Eq.trans (World.drewN_drewN _ _ _) (congrArg (World.drewN _) (Nat.add_assoc _ _ _))⟩))))
   go_meet
   case rel => exact ⟨_,(!t105),(by first | rfl | (simp; done) | (simp [*]; done)),H',⟨by first | omega | exact Nat.le_refl _⟩,⟨by (with_reducible repeat (first | refine blk_drewN ?_ _ | refine blk_drew ?_ | refine blk_alloc ?_ _)); first | exact BK103.out | (simp only [*]; exact BK103.out)⟩,⟨by repeat (first | (with_reducible first | exact HB.out | apply below_alloc | apply pw_below_drewN | apply below_drew1 | refine below_set ?_ GE103.out) | exact HB.out)⟩⟩
  ·replace c5 := Bool.eq_false_iff.mpr c5
   subst c5
   have H1 : (impl_LockOk.j0 k true a0_0 l0_1 l0_2) = some r := by rw [if_neg (show ¬ (false = true) by decide)] at H; exact H
   clear H
   have H := H1
   clear H1
   have H' := Aside0.mk H
   clear H
   have hcz8_0 : w3.cell? ⟨gb103,0,none⟩ = some (.int .i64 a0_0) := (blk_cell BK103.out 0).trans rfl
   have hcz8_1 : w3.cell? ⟨gb103,1,none⟩ = some (.slice A0_1 l0_1.length c0_1) := (blk_cell BK103.out 1).trans rfl
   have hcz8_2 : w3.cell? ⟨gb103,2,none⟩ = some (.slice A0_2 l0_2.length c0_2) := (blk_cell BK103.out 2).trans rfl
   have hfz8_0 := blk_frozen BK103.out 0
   have hfz8_1 := blk_frozen BK103.out 1
   have hfz8_2 := blk_frozen BK103.out 2
   go_wp2_with (first | (go_at_call 30; (with_reducible refine (impl_in.calls a0_0 0 2 false _ A4.out).mono ?_); rintro e w' ⟨rfl,⟨nd,rfl⟩⟩; (try first | exact ⟨rfl,_,World.drewN_drewN _ _ _⟩ | exact ⟨rfl,_,Eq.trans (World.drewN_drewN _ _ _) (congrArg (World.drewN _) (Nat.add_assoc _ _ _))⟩)))
   repeat (go_quiet (first | (go_at_call 30; (with_reducible refine (impl_in.calls a0_0 0 2 false _ A4.out).mono ?_); rintro e w' ⟨rfl,⟨nd,rfl⟩⟩; (try first | exact ⟨rfl,_,World.drewN_drewN _ _ _⟩ | exact ⟨rfl,_,Eq.trans (World.drewN_drewN _ _ _) (congrArg (World.drewN _) (Nat.add_assoc _ _ _))⟩))); try go_wp2_with (first | (go_at_call 30; (with_reducible refine (impl_in.calls a0_0 0 2 false _ A4.out).mono ?_); rintro e w' ⟨rfl,⟨nd,rfl⟩⟩; (try first | exact ⟨rfl,_,World.drewN_drewN _ _ _⟩ | exact ⟨rfl,_,Eq.trans (World.drewN_drewN _ _ _) (congrArg (World.drewN _) (Nat.add_assoc _ _ _))⟩))))
   go_meet
   case rel => exact ⟨_,(true),(by first | rfl | (simp; done) | (simp [*]; done)),H',⟨by first | omega | exact Nat.le_refl _⟩,⟨by (with_reducible repeat (first | refine blk_drewN ?_ _ | refine blk_drew ?_ | refine blk_alloc ?_ _)); first | exact BK103.out | (simp only [*]; exact BK103.out)⟩,⟨by repeat (first | (with_reducible first | exact HB.out | apply below_alloc | apply pw_below_drewN | apply below_drew1 | refine below_set ?_ GE103.out) | exact HB.out)⟩⟩
 case rest =>
  clear HC2
  try clear c1
  try clear p2
  try clear c5
  try clear hcz7_0
  try clear hcz7_1
  try clear hcz7_2
  try clear hcz8_0
  try clear hcz8_1
  try clear hcz8_2
  try clear hfz7_0
  try clear hfz7_1
  try clear hfz7_2
  try clear hfz8_0
  try clear hfz8_1
  try clear hfz8_2
  obtain ⟨kq,x16_1,rfl,HA,HJ1,BK103,HB⟩ := hcut
  cases kq with
  | zero => exact absurd HA.out (by simp [impl_LockOk.j0])
  | succ kj1 =>
   have H := HA.out
   clear HA
   simp only [impl_LockOk.j0] at H
   by_cases c9 : x16_1 = true
   ·subst c9
    have H1 : (some false) = some r := by rw [if_pos rfl] at H; exact H
    clear H
    have H := H1
    clear H1
    obtain rfl := Option.some.inj H
    simp only [Option.some.injEq,Prod.mk.injEq] at H
    obtain ⟨rfl⟩ := H
    go_wp2
    repeat (go_quiet (fail); try go_wp2)
    go_ret
    exact ⟨by first | rfl | (simp [errW_none,errW_some] <;> rfl) | (simp [*,errW_none,errW_some] <;> rfl),by repeat (first | (with_reducible first | exact HB.out | apply below_alloc | apply pw_below_drewN | apply below_drew1 | refine below_set ?_ GE103.out) | exact HB.out)⟩
   ·replace c9 := Bool.eq_false_iff.mpr c9
    subst c9
    have H1 : (impl_LockOk.l0 kj1 0 l0_1 (l0_1.length : Int) 0 a0_0 l0_1 l0_2) = some r := by rw [if_neg (show ¬ (false = true) by decide)] at H; exact H
    clear H
    have H := H1
    clear H1
    have H' := Aside0.mk H
    clear H
    have hcz10_0 : wc.cell? ⟨gb103,0,none⟩ = some (.int .i64 a0_0) := (blk_cell BK103.out 0).trans rfl
    have hcz10_1 : wc.cell? ⟨gb103,1,none⟩ = some (.slice A0_1 l0_1.length c0_1) := (blk_cell BK103.out 1).trans rfl
    have hcz10_2 : wc.cell? ⟨gb103,2,none⟩ = some (.slice A0_2 l0_2.length c0_2) := (blk_cell BK103.out 2).trans rfl
    have hfz10_0 := blk_frozen BK103.out 0
    have hfz10_1 := blk_frozen BK103.out 1
    have hfz10_2 := blk_frozen BK103.out 2
    go_wp2
    repeat (go_quiet (fail); try go_wp2)
    go_loopg [3,20] kj1 (fun kq v3 v20 w' => ∃ (x3_2 : Int) (x20_2 : Int),v3 = .int .i64 x3_2 ∧ v20 = .int .i64 x20_2 ∧ Aside0 (impl_LockOk.l0 kq x3_2 l0_1 (l0_1.length : Int) x20_2 a0_0 l0_1 l0_2 = some r) ∧ Aside0 (kq ≤ kj1) ∧ Aside0 (w'.heap[gb103]? = some (.cells #[.int .i64 a0_0,(.slice A0_1 l0_1.length c0_1),(.slice A0_2 l0_2.length c0_2)] 28 (0,0))) ∧ Aside0 (Below w.heap.size w w'))
    case atStart => exact ⟨(0),(0),(by first | rfl | (simp; done) | (simp [*]; done)),(by first | rfl | (simp; done) | (simp [*]; done)),H',⟨Nat.le_refl _⟩,⟨by (with_reducible repeat (first | refine blk_drewN ?_ _ | refine blk_drew ?_ | refine blk_alloc ?_ _)); first | exact BK103.out | (simp only [*]; exact BK103.out)⟩,⟨by repeat (first | (with_reducible first | exact HB.out | apply below_alloc | apply pw_below_drewN | apply below_drew1 | refine below_set ?_ GE103.out) | exact HB.out)⟩⟩
    case round =>
     clear H'
     try clear c1
     try clear p2
     try clear c5
     try clear c9
     try clear hcz10_0
     try clear hcz10_1
     try clear hcz10_2
     try clear hcz7_0
     try clear hcz7_1
     try clear hcz7_2
     try clear hcz8_0
     try clear hcz8_1
     try clear hcz8_2
     try clear hfz10_0
     try clear hfz10_1
     try clear hfz10_2
     try clear hfz7_0
     try clear hfz7_1
     try clear hfz7_2
     try clear hfz8_0
     try clear hfz8_1
     try clear hfz8_2
     try clear p2
     obtain ⟨x3_2,x20_2,rfl,rfl,HA,HK2,BK103,HB⟩ := hrel
     cases gk with
     | zero => exact absurd HA.out (by simp [impl_LockOk.l0])
     | succ k2 =>
      have H := HA.out
      clear HA
      simp only [impl_LockOk.l0] at H
      by_cases c11 : x20_2 < (l0_1.length : Int)
      ·rw [if_pos c11] at H
       have c11b0 : decide (x20_2 < (l0_1.length : Int)) = true := decide_eq_true c11
       clear c11
       by_cases c12 : 0 ≤ x20_2
       ·rw [if_pos c12] at H
        have c12b0 : decide (0 ≤ x20_2) = true := decide_eq_true c12
        clear c12
        by_cases c13 : x20_2 < (l0_1.length : Int)
        ·rw [if_pos c13] at H
         have c13b0 : decide (x20_2 < (l0_1.length : Int)) = true := decide_eq_true c13
         clear c13
         have HC14 := Aside0.mk H
         clear H
         have p106 : 0 ≤ (x20_2 : Int) := of_decide_eq_true (by first | (with_reducible assumption) | assumption)
         have q106 : x20_2 < (l0_1.length : Int) := of_decide_eq_true (by first | (with_reducible assumption) | assumption)
         obtain ⟨ad106,e106,hx106_0,hx106_1,hx106_2,hx106_3⟩ := at_T60 HR0_1.out x20_2 p106 q106
         cases e106
         replace hx106_0 := (HB.out.cell (World.block_lt_of_cell? w _ hx106_0)).trans hx106_0
         replace hx106_1 := (HB.out.cell (World.block_lt_of_cell? w _ hx106_1)).trans hx106_1
         replace hx106_2 := (HB.out.cell (World.block_lt_of_cell? w _ hx106_2)).trans hx106_2
         replace hx106_3 := (HB.out.cell (World.block_lt_of_cell? w _ hx106_3)).trans hx106_3
         replace p106 := eq_true p106
         replace q106 := eq_true q106
         go_upto_region 7 with (first | ((with_reducible refine gate_dst (N := 5) rfl ?_); (try (refine gate_guard (by rfl) ?_; dsimp only)); refine box_event ?hg (N := 5) ?hd (cs := #[.int .i64 0,.int .i64 0,.int .i64 0,.bool false]) (t := 60) ?hr ?_; (case hd => rfl); (case hg => rfl); (case hr => first | (go_simp; done) | (go_simp; rfl)); intro gb107 hg w15 hbox hb; have n0_ := Aside0.mk (blk_below (g := gb103) (o := .cells #[.int .i64 a0_0,.slice (some ad106) l0_1.length c0_1,.slice A0_2 l0_2.length c0_2] 28 (0,0)) (by (with_reducible repeat (first | refine blk_drewN ?_ _ | refine blk_drew ?_ | refine blk_alloc ?_ _)); exact BK103.out) hb); have n1_ := Aside0.mk (below_step (by repeat (first | (with_reducible first | exact HB.out | apply below_alloc | apply pw_below_drewN | apply below_drew1 | refine below_set ?_ GE103.out) | exact HB.out)) hb); have n2_ := Aside0.mk (hbox); have n3_ := Aside0.mk ((by rw [hg]; exact (below_size (by repeat (first | (with_reducible first | exact HB.out | apply below_alloc | apply pw_below_drewN | apply below_drew1 | refine below_set ?_ GE103.out) | exact HB.out))) : w.heap.size ≤ gb107)); have n4_ := Aside0.mk ((by rw [hg]; exact (below_size (by repeat (first | (with_reducible first | exact HB.out | apply below_alloc | apply pw_below_drewN | apply below_drew1 | refine below_set ?_ GE103.out) | exact HB.out))) : w.heap.size ≤ gb107)); have n5_ := Aside0.mk ((by rw [hg]; exact Nat.ne_of_lt (blk_lt (g := gb103) (o := .cells #[.int .i64 a0_0,.slice (some ad106) l0_1.length c0_1,.slice A0_2 l0_2.length c0_2] 28 (0,0)) (by (with_reducible repeat (first | refine blk_drewN ?_ _ | refine blk_drew ?_ | refine blk_alloc ?_ _)); exact BK103.out)) : gb103 ≠ gb107)); have n6_ := Aside0.mk ((by rw [hg]; exact Nat.ne_of_gt (blk_lt (g := gb103) (o := .cells #[.int .i64 a0_0,.slice (some ad106) l0_1.length c0_1,.slice A0_2 l0_2.length c0_2] 28 (0,0)) (by (with_reducible repeat (first | refine blk_drewN ?_ _ | refine blk_drew ?_ | refine blk_alloc ?_ _)); exact BK103.out)) : gb107 ≠ gb103)); clear BK103; clear HB; have BK103 := n0_; have HB := n1_; have BK107 := n2_; have GW107 := n3_; have GE107 := n4_; have NB103_107 := n5_; have NB107_103 := n6_; clear n0_ n1_ n2_ n3_ n4_ n5_ n6_; clear hb hbox hg; have hnb16 := NB107_103.out; have hnc16 := NB103_107.out; have hcz17_0 : w15.cell? ⟨gb107,0,none⟩ = some (.int .i64 0) := (blk_cell BK107.out 0).trans rfl; have hcz17_1 : w15.cell? ⟨gb107,1,none⟩ = some (.int .i64 0) := (blk_cell BK107.out 1).trans rfl; have hcz17_2 : w15.cell? ⟨gb107,2,none⟩ = some (.int .i64 0) := (blk_cell BK107.out 2).trans rfl; have hcz17_3 : w15.cell? ⟨gb107,3,none⟩ = some (.bool false) := (blk_cell BK107.out 3).trans rfl; have hfz17_0 := blk_frozen BK107.out 0; have hfz17_1 := blk_frozen BK107.out 1; have hfz17_2 := blk_frozen BK107.out 2; have hfz17_3 := blk_frozen BK107.out 3))
         repeat (go_quiet (first | ((with_reducible refine gate_dst (N := 5) rfl ?_); (try (refine gate_guard (by rfl) ?_; dsimp only)); refine box_event ?hg (N := 5) ?hd (cs := #[.int .i64 0,.int .i64 0,.int .i64 0,.bool false]) (t := 60) ?hr ?_; (case hd => rfl); (case hg => rfl); (case hr => first | (go_simp; done) | (go_simp; rfl)); intro gb107 hg w15 hbox hb; have n0_ := Aside0.mk (blk_below (g := gb103) (o := .cells #[.int .i64 a0_0,.slice (some ad106) l0_1.length c0_1,.slice A0_2 l0_2.length c0_2] 28 (0,0)) (by (with_reducible repeat (first | refine blk_drewN ?_ _ | refine blk_drew ?_ | refine blk_alloc ?_ _)); exact BK103.out) hb); have n1_ := Aside0.mk (below_step (by repeat (first | (with_reducible first | exact HB.out | apply below_alloc | apply pw_below_drewN | apply below_drew1 | refine below_set ?_ GE103.out) | exact HB.out)) hb); have n2_ := Aside0.mk (hbox); have n3_ := Aside0.mk ((by rw [hg]; exact (below_size (by repeat (first | (with_reducible first | exact HB.out | apply below_alloc | apply pw_below_drewN | apply below_drew1 | refine below_set ?_ GE103.out) | exact HB.out))) : w.heap.size ≤ gb107)); have n4_ := Aside0.mk ((by rw [hg]; exact (below_size (by repeat (first | (with_reducible first | exact HB.out | apply below_alloc | apply pw_below_drewN | apply below_drew1 | refine below_set ?_ GE103.out) | exact HB.out))) : w.heap.size ≤ gb107)); have n5_ := Aside0.mk ((by rw [hg]; exact Nat.ne_of_lt (blk_lt (g := gb103) (o := .cells #[.int .i64 a0_0,.slice (some ad106) l0_1.length c0_1,.slice A0_2 l0_2.length c0_2] 28 (0,0)) (by (with_reducible repeat (first | refine blk_drewN ?_ _ | refine blk_drew ?_ | refine blk_alloc ?_ _)); exact BK103.out)) : gb103 ≠ gb107)); have n6_ := Aside0.mk ((by rw [hg]; exact Nat.ne_of_gt (blk_lt (g := gb103) (o := .cells #[.int .i64 a0_0,.slice (some ad106) l0_1.length c0_1,.slice A0_2 l0_2.length c0_2] 28 (0,0)) (by (with_reducible repeat (first | refine blk_drewN ?_ _ | refine blk_drew ?_ | refine blk_alloc ?_ _)); exact BK103.out)) : gb107 ≠ gb103)); clear BK103; clear HB; have BK103 := n0_; have HB := n1_; have BK107 := n2_; have GW107 := n3_; have GE107 := n4_; have NB103_107 := n5_; have NB107_103 := n6_; clear n0_ n1_ n2_ n3_ n4_ n5_ n6_; clear hb hbox hg; have hnb16 := NB107_103.out; have hnc16 := NB103_107.out; have hcz17_0 : w15.cell? ⟨gb107,0,none⟩ = some (.int .i64 0) := (blk_cell BK107.out 0).trans rfl; have hcz17_1 : w15.cell? ⟨gb107,1,none⟩ = some (.int .i64 0) := (blk_cell BK107.out 1).trans rfl; have hcz17_2 : w15.cell? ⟨gb107,2,none⟩ = some (.int .i64 0) := (blk_cell BK107.out 2).trans rfl; have hcz17_3 : w15.cell? ⟨gb107,3,none⟩ = some (.bool false) := (blk_cell BK107.out 3).trans rfl; have hfz17_0 := blk_frozen BK107.out 0; have hfz17_1 := blk_frozen BK107.out 1; have hfz17_2 := blk_frozen BK107.out 2; have hfz17_3 := blk_frozen BK107.out 3)); go_upto_region 7 with (first | ((with_reducible refine gate_dst (N := 5) rfl ?_); (try (refine gate_guard (by rfl) ?_; dsimp only)); refine box_event ?hg (N := 5) ?hd (cs := #[.int .i64 0,.int .i64 0,.int .i64 0,.bool false]) (t := 60) ?hr ?_; (case hd => rfl); (case hg => rfl); (case hr => first | (go_simp; done) | (go_simp; rfl)); intro gb107 hg w15 hbox hb; have n0_ := Aside0.mk (blk_below (g := gb103) (o := .cells #[.int .i64 a0_0,.slice (some ad106) l0_1.length c0_1,.slice A0_2 l0_2.length c0_2] 28 (0,0)) (by (with_reducible repeat (first | refine blk_drewN ?_ _ | refine blk_drew ?_ | refine blk_alloc ?_ _)); exact BK103.out) hb); have n1_ := Aside0.mk (below_step (by repeat (first | (with_reducible first | exact HB.out | apply below_alloc | apply pw_below_drewN | apply below_drew1 | refine below_set ?_ GE103.out) | exact HB.out)) hb); have n2_ := Aside0.mk (hbox); have n3_ := Aside0.mk ((by rw [hg]; exact (below_size (by repeat (first | (with_reducible first | exact HB.out | apply below_alloc | apply pw_below_drewN | apply below_drew1 | refine below_set ?_ GE103.out) | exact HB.out))) : w.heap.size ≤ gb107)); have n4_ := Aside0.mk ((by rw [hg]; exact (below_size (by repeat (first | (with_reducible first | exact HB.out | apply below_alloc | apply pw_below_drewN | apply below_drew1 | refine below_set ?_ GE103.out) | exact HB.out))) : w.heap.size ≤ gb107)); have n5_ := Aside0.mk ((by rw [hg]; exact Nat.ne_of_lt (blk_lt (g := gb103) (o := .cells #[.int .i64 a0_0,.slice (some ad106) l0_1.length c0_1,.slice A0_2 l0_2.length c0_2] 28 (0,0)) (by (with_reducible repeat (first | refine blk_drewN ?_ _ | refine blk_drew ?_ | refine blk_alloc ?_ _)); exact BK103.out)) : gb103 ≠ gb107)); have n6_ := Aside0.mk ((by rw [hg]; exact Nat.ne_of_gt (blk_lt (g := gb103) (o := .cells #[.int .i64 a0_0,.slice (some ad106) l0_1.length c0_1,.slice A0_2 l0_2.length c0_2] 28 (0,0)) (by (with_reducible repeat (first | refine blk_drewN ?_ _ | refine blk_drew ?_ | refine blk_alloc ?_ _)); exact BK103.out)) : gb107 ≠ gb103)); clear BK103; clear HB; have BK103 := n0_; have HB := n1_; have BK107 := n2_; have GW107 := n3_; have GE107 := n4_; have NB103_107 := n5_; have NB107_103 := n6_; clear n0_ n1_ n2_ n3_ n4_ n5_ n6_; clear hb hbox hg; have hnb16 := NB107_103.out; have hnc16 := NB103_107.out; have hcz17_0 : w15.cell? ⟨gb107,0,none⟩ = some (.int .i64 0) := (blk_cell BK107.out 0).trans rfl; have hcz17_1 : w15.cell? ⟨gb107,1,none⟩ = some (.int .i64 0) := (blk_cell BK107.out 1).trans rfl; have hcz17_2 : w15.cell? ⟨gb107,2,none⟩ = some (.int .i64 0) := (blk_cell BK107.out 2).trans rfl; have hcz17_3 : w15.cell? ⟨gb107,3,none⟩ = some (.bool false) := (blk_cell BK107.out 3).trans rfl; have hfz17_0 := blk_frozen BK107.out 0; have hfz17_1 := blk_frozen BK107.out 1; have hfz17_2 := blk_frozen BK107.out 2; have hfz17_3 := blk_frozen BK107.out 3)))
         (try simp only [Act.put,List.setIfInBounds_toArray,List.set_cons_zero,List.set_cons_succ])
         go_cut [69] (fun v69 wc => ∃ (kq : Nat) (x69_13 : Bool),v69 = .bool x69_13 ∧ Aside0 (impl_LockOk.j2 kq x3_2 x20_2 l0_1 (l0_1.length : Int) x20_2 x69_13 a0_0 l0_1 l0_2 ((rd_T60 l0_1 x20_2).f0) ((rd_T60 l0_1 x20_2).f1) ((rd_T60 l0_1 x20_2).f2) ((rd_T60 l0_1 x20_2).f3) = some r) ∧ Aside0 (kq ≤ k2) ∧ Aside0 (wc.heap[gb103]? = some (.cells #[.int .i64 a0_0,(.slice (some ad106) l0_1.length c0_1),(.slice A0_2 l0_2.length c0_2)] 28 (0,0))) ∧ Aside0 (wc.heap[gb107]? = some (.cells #[.int .i64 ((rd_T60 l0_1 x20_2).f0),.int .i64 ((rd_T60 l0_1 x20_2).f1),.int .i64 ((rd_T60 l0_1 x20_2).f2),.bool ((rd_T60 l0_1 x20_2).f3)] 60 (0,0))) ∧ Aside0 (Below w.heap.size w wc))
         case first =>
          have H := HC14.out
          clear HC14
          replace H := Option.bind_eq_some_iff.mp H
          obtain ⟨t108,A180,H⟩ := H
          replace H : (if t108 = true then ((impl_in.f ((rd_T60 l0_1 x20_2).f1) 0 2).bind fun t109 => (if t109 = true then (if ((rd_T60 l0_1 x20_2).f1) > 0 then (if ((rd_T60 l0_1 x20_2).f0) = 1 then ((impl_in.f ((rd_T60 l0_1 x20_2).f2) 0 3).bind fun t110 => (if t110 = true then (if ((rd_T60 l0_1 x20_2).f0) > 0 then (if ((rd_T60 l0_1 x20_2).f2) = 0 then (impl_LockOk.j2 k2 x3_2 x20_2 l0_1 (l0_1.length : Int) x20_2 true a0_0 l0_1 l0_2 ((rd_T60 l0_1 x20_2).f0) ((rd_T60 l0_1 x20_2).f1) ((rd_T60 l0_1 x20_2).f2) ((rd_T60 l0_1 x20_2).f3)) else (if (rd_T60 l0_1 x20_2).f3 = true then (impl_LockOk.j2 k2 x3_2 x20_2 l0_1 (l0_1.length : Int) x20_2 (((rd_T60 l0_1 x20_2).f0) != 3) a0_0 l0_1 l0_2 ((rd_T60 l0_1 x20_2).f0) ((rd_T60 l0_1 x20_2).f1) ((rd_T60 l0_1 x20_2).f2) ((rd_T60 l0_1 x20_2).f3)) else (impl_LockOk.j2 k2 x3_2 x20_2 l0_1 (l0_1.length : Int) x20_2 false a0_0 l0_1 l0_2 ((rd_T60 l0_1 x20_2).f0) ((rd_T60 l0_1 x20_2).f1) ((rd_T60 l0_1 x20_2).f2) ((rd_T60 l0_1 x20_2).f3)))) else (if (rd_T60 l0_1 x20_2).f3 = true then (impl_LockOk.j2 k2 x3_2 x20_2 l0_1 (l0_1.length : Int) x20_2 (((rd_T60 l0_1 x20_2).f0) != 3) a0_0 l0_1 l0_2 ((rd_T60 l0_1 x20_2).f0) ((rd_T60 l0_1 x20_2).f1) ((rd_T60 l0_1 x20_2).f2) ((rd_T60 l0_1 x20_2).f3)) else (impl_LockOk.j2 k2 x3_2 x20_2 l0_1 (l0_1.length : Int) x20_2 false a0_0 l0_1 l0_2 ((rd_T60 l0_1 x20_2).f0) ((rd_T60 l0_1 x20_2).f1) ((rd_T60 l0_1 x20_2).f2) ((rd_T60 l0_1 x20_2).f3)))) else (impl_LockOk.j2 k2 x3_2 x20_2 l0_1 (l0_1.length : Int) x20_2 true a0_0 l0_1 l0_2 ((rd_T60 l0_1 x20_2).f0) ((rd_T60 l0_1 x20_2).f1) ((rd_T60 l0_1 x20_2).f2) ((rd_T60 l0_1 x20_2).f3)))) else (impl_LockOk.j2 k2 x3_2 x20_2 l0_1 (l0_1.length : Int) x20_2 true a0_0 l0_1 l0_2 ((rd_T60 l0_1 x20_2).f0) ((rd_T60 l0_1 x20_2).f1) ((rd_T60 l0_1 x20_2).f2) ((rd_T60 l0_1 x20_2).f3))) else ((impl_in.f ((rd_T60 l0_1 x20_2).f2) 0 3).bind fun t111 => (if t111 = true then (if ((rd_T60 l0_1 x20_2).f0) > 0 then (if ((rd_T60 l0_1 x20_2).f2) = 0 then (impl_LockOk.j2 k2 x3_2 x20_2 l0_1 (l0_1.length : Int) x20_2 true a0_0 l0_1 l0_2 ((rd_T60 l0_1 x20_2).f0) ((rd_T60 l0_1 x20_2).f1) ((rd_T60 l0_1 x20_2).f2) ((rd_T60 l0_1 x20_2).f3)) else (if (rd_T60 l0_1 x20_2).f3 = true then (impl_LockOk.j2 k2 x3_2 x20_2 l0_1 (l0_1.length : Int) x20_2 (((rd_T60 l0_1 x20_2).f0) != 3) a0_0 l0_1 l0_2 ((rd_T60 l0_1 x20_2).f0) ((rd_T60 l0_1 x20_2).f1) ((rd_T60 l0_1 x20_2).f2) ((rd_T60 l0_1 x20_2).f3)) else (impl_LockOk.j2 k2 x3_2 x20_2 l0_1 (l0_1.length : Int) x20_2 false a0_0 l0_1 l0_2 ((rd_T60 l0_1 x20_2).f0) ((rd_T60 l0_1 x20_2).f1) ((rd_T60 l0_1 x20_2).f2) ((rd_T60 l0_1 x20_2).f3)))) else (if (rd_T60 l0_1 x20_2).f3 = true then (impl_LockOk.j2 k2 x3_2 x20_2 l0_1 (l0_1.length : Int) x20_2 (((rd_T60 l0_1 x20_2).f0) != 3) a0_0 l0_1 l0_2 ((rd_T60 l0_1 x20_2).f0) ((rd_T60 l0_1 x20_2).f1) ((rd_T60 l0_1 x20_2).f2) ((rd_T60 l0_1 x20_2).f3)) else (impl_LockOk.j2 k2 x3_2 x20_2 l0_1 (l0_1.length : Int) x20_2 false a0_0 l0_1 l0_2 ((rd_T60 l0_1 x20_2).f0) ((rd_T60 l0_1 x20_2).f1) ((rd_T60 l0_1 x20_2).f2) ((rd_T60 l0_1 x20_2).f3)))) else (impl_LockOk.j2 k2 x3_2 x20_2 l0_1 (l0_1.length : Int) x20_2 true a0_0 l0_1 l0_2 ((rd_T60 l0_1 x20_2).f0) ((rd_T60 l0_1 x20_2).f1) ((rd_T60 l0_1 x20_2).f2) ((rd_T60 l0_1 x20_2).f3))))) else (impl_LockOk.j2 k2 x3_2 x20_2 l0_1 (l0_1.length : Int) x20_2 true a0_0 l0_1 l0_2 ((rd_T60 l0_1 x20_2).f0) ((rd_T60 l0_1 x20_2).f1) ((rd_T60 l0_1 x20_2).f2) ((rd_T60 l0_1 x20_2).f3)))) else (impl_LockOk.j2 k2 x3_2 x20_2 l0_1 (l0_1.length : Int) x20_2 true a0_0 l0_1 l0_2 ((rd_T60 l0_1 x20_2).f0) ((rd_T60 l0_1 x20_2).f1) ((rd_T60 l0_1 x20_2).f2) ((rd_T60 l0_1 x20_2).f3))) = some r := H
          have A18 := Aside0.mk A180
          clear A180
          by_cases c19 : t108 = true
          ·subst c19
           have H1 : ((impl_in.f ((rd_T60 l0_1 x20_2).f1) 0 2).bind fun t109 => (if t109 = true then (if ((rd_T60 l0_1 x20_2).f1) > 0 then (if ((rd_T60 l0_1 x20_2).f0) = 1 then ((impl_in.f ((rd_T60 l0_1 x20_2).f2) 0 3).bind fun t110 => (if t110 = true then (if ((rd_T60 l0_1 x20_2).f0) > 0 then (if ((rd_T60 l0_1 x20_2).f2) = 0 then (impl_LockOk.j2 k2 x3_2 x20_2 l0_1 (l0_1.length : Int) x20_2 true a0_0 l0_1 l0_2 ((rd_T60 l0_1 x20_2).f0) ((rd_T60 l0_1 x20_2).f1) ((rd_T60 l0_1 x20_2).f2) ((rd_T60 l0_1 x20_2).f3)) else (if (rd_T60 l0_1 x20_2).f3 = true then (impl_LockOk.j2 k2 x3_2 x20_2 l0_1 (l0_1.length : Int) x20_2 (((rd_T60 l0_1 x20_2).f0) != 3) a0_0 l0_1 l0_2 ((rd_T60 l0_1 x20_2).f0) ((rd_T60 l0_1 x20_2).f1) ((rd_T60 l0_1 x20_2).f2) ((rd_T60 l0_1 x20_2).f3)) else (impl_LockOk.j2 k2 x3_2 x20_2 l0_1 (l0_1.length : Int) x20_2 false a0_0 l0_1 l0_2 ((rd_T60 l0_1 x20_2).f0) ((rd_T60 l0_1 x20_2).f1) ((rd_T60 l0_1 x20_2).f2) ((rd_T60 l0_1 x20_2).f3)))) else (if (rd_T60 l0_1 x20_2).f3 = true then (impl_LockOk.j2 k2 x3_2 x20_2 l0_1 (l0_1.length : Int) x20_2 (((rd_T60 l0_1 x20_2).f0) != 3) a0_0 l0_1 l0_2 ((rd_T60 l0_1 x20_2).f0) ((rd_T60 l0_1 x20_2).f1) ((rd_T60 l0_1 x20_2).f2) ((rd_T60 l0_1 x20_2).f3)) else (impl_LockOk.j2 k2 x3_2 x20_2 l0_1 (l0_1.length : Int) x20_2 false a0_0 l0_1 l0_2 ((rd_T60 l0_1 x20_2).f0) ((rd_T60 l0_1 x20_2).f1) ((rd_T60 l0_1 x20_2).f2) ((rd_T60 l0_1 x20_2).f3)))) else (impl_LockOk.j2 k2 x3_2 x20_2 l0_1 (l0_1.length : Int) x20_2 true a0_0 l0_1 l0_2 ((rd_T60 l0_1 x20_2).f0) ((rd_T60 l0_1 x20_2).f1) ((rd_T60 l0_1 x20_2).f2) ((rd_T60 l0_1 x20_2).f3)))) else (impl_LockOk.j2 k2 x3_2 x20_2 l0_1 (l0_1.length : Int) x20_2 true a0_0 l0_1 l0_2 ((rd_T60 l0_1 x20_2).f0) ((rd_T60 l0_1 x20_2).f1) ((rd_T60 l0_1 x20_2).f2) ((rd_T60 l0_1 x20_2).f3))) else ((impl_in.f ((rd_T60 l0_1 x20_2).f2) 0 3).bind fun t111 => (if t111 = true then (if ((rd_T60 l0_1 x20_2).f0) > 0 then (if ((rd_T60 l0_1 x20_2).f2) = 0 then (impl_LockOk.j2 k2 x3_2 x20_2 l0_1 (l0_1.length : Int) x20_2 true a0_0 l0_1 l0_2 ((rd_T60 l0_1 x20_2).f0) ((rd_T60 l0_1 x20_2).f1) ((rd_T60 l0_1 x20_2).f2) ((rd_T60 l0_1 x20_2).f3)) else (if (rd_T60 l0_1 x20_2).f3 = true then (impl_LockOk.j2 k2 x3_2 x20_2 l0_1 (l0_1.length : Int) x20_2 (((rd_T60 l0_1 x20_2).f0) != 3) a0_0 l0_1 l0_2 ((rd_T60 l0_1 x20_2).f0) ((rd_T60 l0_1 x20_2).f1) ((rd_T60 l0_1 x20_2).f2) ((rd_T60 l0_1 x20_2).f3)) else (impl_LockOk.j2 k2 x3_2 x20_2 l0_1 (l0_1.length : Int) x20_2 false a0_0 l0_1 l0_2 ((rd_T60 l0_1 x20_2).f0) ((rd_T60 l0_1 x20_2).f1) ((rd_T60 l0_1 x20_2).f2) ((rd_T60 l0_1 x20_2).f3)))) else (if (rd_T60 l0_1 x20_2).f3 = true then (impl_LockOk.j2 k2 x3_2 x20_2 l0_1 (l0_1.length : Int) x20_2 (((rd_T60 l0_1 x20_2).f0) != 3) a0_0 l0_1 l0_2 ((rd_T60 l0_1 x20_2).f0) ((rd_T60 l0_1 x20_2).f1) ((rd_T60 l0_1 x20_2).f2) ((rd_T60 l0_1 x20_2).f3)) else (impl_LockOk.j2 k2 x3_2 x20_2 l0_1 (l0_1.length : Int) x20_2 false a0_0 l0_1 l0_2 ((rd_T60 l0_1 x20_2).f0) ((rd_T60 l0_1 x20_2).f1) ((rd_T60 l0_1 x20_2).f2) ((rd_T60 l0_1 x20_2).f3)))) else (impl_LockOk.j2 k2 x3_2 x20_2 l0_1 (l0_1.length : Int) x20_2 true a0_0 l0_1 l0_2 ((rd_T60 l0_1 x20_2).f0) ((rd_T60 l0_1 x20_2).f1) ((rd_T60 l0_1 x20_2).f2) ((rd_T60 l0_1 x20_2).f3))))) else (impl_LockOk.j2 k2 x3_2 x20_2 l0_1 (l0_1.length : Int) x20_2 true a0_0 l0_1 l0_2 ((rd_T60 l0_1 x20_2).f0) ((rd_T60 l0_1 x20_2).f1) ((rd_T60 l0_1 x20_2).f2) ((rd_T60 l0_1 x20_2).f3)))) = some r := by rw [if_pos rfl] at H; exact H
           clear H
           have H := H1
           clear H1
           replace H := Option.bind_eq_some_iff.mp H
           obtain ⟨t109,A200,H⟩ := H
           replace H : (if t109 = true then (if ((rd_T60 l0_1 x20_2).f1) > 0 then (if ((rd_T60 l0_1 x20_2).f0) = 1 then ((impl_in.f ((rd_T60 l0_1 x20_2).f2) 0 3).bind fun t110 => (if t110 = true then (if ((rd_T60 l0_1 x20_2).f0) > 0 then (if ((rd_T60 l0_1 x20_2).f2) = 0 then (impl_LockOk.j2 k2 x3_2 x20_2 l0_1 (l0_1.length : Int) x20_2 true a0_0 l0_1 l0_2 ((rd_T60 l0_1 x20_2).f0) ((rd_T60 l0_1 x20_2).f1) ((rd_T60 l0_1 x20_2).f2) ((rd_T60 l0_1 x20_2).f3)) else (if (rd_T60 l0_1 x20_2).f3 = true then (impl_LockOk.j2 k2 x3_2 x20_2 l0_1 (l0_1.length : Int) x20_2 (((rd_T60 l0_1 x20_2).f0) != 3) a0_0 l0_1 l0_2 ((rd_T60 l0_1 x20_2).f0) ((rd_T60 l0_1 x20_2).f1) ((rd_T60 l0_1 x20_2).f2) ((rd_T60 l0_1 x20_2).f3)) else (impl_LockOk.j2 k2 x3_2 x20_2 l0_1 (l0_1.length : Int) x20_2 false a0_0 l0_1 l0_2 ((rd_T60 l0_1 x20_2).f0) ((rd_T60 l0_1 x20_2).f1) ((rd_T60 l0_1 x20_2).f2) ((rd_T60 l0_1 x20_2).f3)))) else (if (rd_T60 l0_1 x20_2).f3 = true then (impl_LockOk.j2 k2 x3_2 x20_2 l0_1 (l0_1.length : Int) x20_2 (((rd_T60 l0_1 x20_2).f0) != 3) a0_0 l0_1 l0_2 ((rd_T60 l0_1 x20_2).f0) ((rd_T60 l0_1 x20_2).f1) ((rd_T60 l0_1 x20_2).f2) ((rd_T60 l0_1 x20_2).f3)) else (impl_LockOk.j2 k2 x3_2 x20_2 l0_1 (l0_1.length : Int) x20_2 false a0_0 l0_1 l0_2 ((rd_T60 l0_1 x20_2).f0) ((rd_T60 l0_1 x20_2).f1) ((rd_T60 l0_1 x20_2).f2) ((rd_T60 l0_1 x20_2).f3)))) else (impl_LockOk.j2 k2 x3_2 x20_2 l0_1 (l0_1.length : Int) x20_2 true a0_0 l0_1 l0_2 ((rd_T60 l0_1 x20_2).f0) ((rd_T60 l0_1 x20_2).f1) ((rd_T60 l0_1 x20_2).f2) ((rd_T60 l0_1 x20_2).f3)))) else (impl_LockOk.j2 k2 x3_2 x20_2 l0_1 (l0_1.length : Int) x20_2 true a0_0 l0_1 l0_2 ((rd_T60 l0_1 x20_2).f0) ((rd_T60 l0_1 x20_2).f1) ((rd_T60 l0_1 x20_2).f2) ((rd_T60 l0_1 x20_2).f3))) else ((impl_in.f ((rd_T60 l0_1 x20_2).f2) 0 3).bind fun t111 => (if t111 = true then (if ((rd_T60 l0_1 x20_2).f0) > 0 then (if ((rd_T60 l0_1 x20_2).f2) = 0 then (impl_LockOk.j2 k2 x3_2 x20_2 l0_1 (l0_1.length : Int) x20_2 true a0_0 l0_1 l0_2 ((rd_T60 l0_1 x20_2).f0) ((rd_T60 l0_1 x20_2).f1) ((rd_T60 l0_1 x20_2).f2) ((rd_T60 l0_1 x20_2).f3)) else (if (rd_T60 l0_1 x20_2).f3 = true then (impl_LockOk.j2 k2 x3_2 x20_2 l0_1 (l0_1.length : Int) x20_2 (((rd_T60 l0_1 x20_2).f0) != 3) a0_0 l0_1 l0_2 ((rd_T60 l0_1 x20_2).f0) ((rd_T60 l0_1 x20_2).f1) ((rd_T60 l0_1 x20_2).f2) ((rd_T60 l0_1 x20_2).f3)) else (impl_LockOk.j2 k2 x3_2 x20_2 l0_1 (l0_1.length : Int) x20_2 false a0_0 l0_1 l0_2 ((rd_T60 l0_1 x20_2).f0) ((rd_T60 l0_1 x20_2).f1) ((rd_T60 l0_1 x20_2).f2) ((rd_T60 l0_1 x20_2).f3)))) else (if (rd_T60 l0_1 x20_2).f3 = true then (impl_LockOk.j2 k2 x3_2 x20_2 l0_1 (l0_1.length : Int) x20_2 (((rd_T60 l0_1 x20_2).f0) != 3) a0_0 l0_1 l0_2 ((rd_T60 l0_1 x20_2).f0) ((rd_T60 l0_1 x20_2).f1) ((rd_T60 l0_1 x20_2).f2) ((rd_T60 l0_1 x20_2).f3)) else (impl_LockOk.j2 k2 x3_2 x20_2 l0_1 (l0_1.length : Int) x20_2 false a0_0 l0_1 l0_2 ((rd_T60 l0_1 x20_2).f0) ((rd_T60 l0_1 x20_2).f1) ((rd_T60 l0_1 x20_2).f2) ((rd_T60 l0_1 x20_2).f3)))) else (impl_LockOk.j2 k2 x3_2 x20_2 l0_1 (l0_1.length : Int) x20_2 true a0_0 l0_1 l0_2 ((rd_T60 l0_1 x20_2).f0) ((rd_T60 l0_1 x20_2).f1) ((rd_T60 l0_1 x20_2).f2) ((rd_T60 l0_1 x20_2).f3))))) else (impl_LockOk.j2 k2 x3_2 x20_2 l0_1 (l0_1.length : Int) x20_2 true a0_0 l0_1 l0_2 ((rd_T60 l0_1 x20_2).f0) ((rd_T60 l0_1 x20_2).f1) ((rd_T60 l0_1 x20_2).f2) ((rd_T60 l0_1 x20_2).f3))) = some r := H
           have A20 := Aside0.mk A200
           clear A200
           by_cases c21 : t109 = true
           ·subst c21
            have H1 : (if ((rd_T60 l0_1 x20_2).f1) > 0 then (if ((rd_T60 l0_1 x20_2).f0) = 1 then ((impl_in.f ((rd_T60 l0_1 x20_2).f2) 0 3).bind fun t110 => (if t110 = true then (if ((rd_T60 l0_1 x20_2).f0) > 0 then (if ((rd_T60 l0_1 x20_2).f2) = 0 then (impl_LockOk.j2 k2 x3_2 x20_2 l0_1 (l0_1.length : Int) x20_2 true a0_0 l0_1 l0_2 ((rd_T60 l0_1 x20_2).f0) ((rd_T60 l0_1 x20_2).f1) ((rd_T60 l0_1 x20_2).f2) ((rd_T60 l0_1 x20_2).f3)) else (if (rd_T60 l0_1 x20_2).f3 = true then (impl_LockOk.j2 k2 x3_2 x20_2 l0_1 (l0_1.length : Int) x20_2 (((rd_T60 l0_1 x20_2).f0) != 3) a0_0 l0_1 l0_2 ((rd_T60 l0_1 x20_2).f0) ((rd_T60 l0_1 x20_2).f1) ((rd_T60 l0_1 x20_2).f2) ((rd_T60 l0_1 x20_2).f3)) else (impl_LockOk.j2 k2 x3_2 x20_2 l0_1 (l0_1.length : Int) x20_2 false a0_0 l0_1 l0_2 ((rd_T60 l0_1 x20_2).f0) ((rd_T60 l0_1 x20_2).f1) ((rd_T60 l0_1 x20_2).f2) ((rd_T60 l0_1 x20_2).f3)))) else (if (rd_T60 l0_1 x20_2).f3 = true then (impl_LockOk.j2 k2 x3_2 x20_2 l0_1 (l0_1.length : Int) x20_2 (((rd_T60 l0_1 x20_2).f0) != 3) a0_0 l0_1 l0_2 ((rd_T60 l0_1 x20_2).f0) ((rd_T60 l0_1 x20_2).f1) ((rd_T60 l0_1 x20_2).f2) ((rd_T60 l0_1 x20_2).f3)) else (impl_LockOk.j2 k2 x3_2 x20_2 l0_1 (l0_1.length : Int) x20_2 false a0_0 l0_1 l0_2 ((rd_T60 l0_1 x20_2).f0) ((rd_T60 l0_1 x20_2).f1) ((rd_T60 l0_1 x20_2).f2) ((rd_T60 l0_1 x20_2).f3)))) else (impl_LockOk.j2 k2 x3_2 x20_2 l0_1 (l0_1.length : Int) x20_2 true a0_0 l0_1 l0_2 ((rd_T60 l0_1 x20_2).f0) ((rd_T60 l0_1 x20_2).f1) ((rd_T60 l0_1 x20_2).f2) ((rd_T60 l0_1 x20_2).f3)))) else (impl_LockOk.j2 k2 x3_2 x20_2 l0_1 (l0_1.length : Int) x20_2 true a0_0 l0_1 l0_2 ((rd_T60 l0_1 x20_2).f0) ((rd_T60 l0_1 x20_2).f1) ((rd_T60 l0_1 x20_2).f2) ((rd_T60 l0_1 x20_2).f3))) else ((impl_in.f ((rd_T60 l0_1 x20_2).f2) 0 3).bind fun t111 => (if t111 = true then (if ((rd_T60 l0_1 x20_2).f0) > 0 then (if ((rd_T60 l0_1 x20_2).f2) = 0 then (impl_LockOk.j2 k2 x3_2 x20_2 l0_1 (l0_1.length : Int) x20_2 true a0_0 l0_1 l0_2 ((rd_T60 l0_1 x20_2).f0) ((rd_T60 l0_1 x20_2).f1) ((rd_T60 l0_1 x20_2).f2) ((rd_T60 l0_1 x20_2).f3)) else (if (rd_T60 l0_1 x20_2).f3 = true then (impl_LockOk.j2 k2 x3_2 x20_2 l0_1 (l0_1.length : Int) x20_2 (((rd_T60 l0_1 x20_2).f0) != 3) a0_0 l0_1 l0_2 ((rd_T60 l0_1 x20_2).f0) ((rd_T60 l0_1 x20_2).f1) ((rd_T60 l0_1 x20_2).f2) ((rd_T60 l0_1 x20_2).f3)) else (impl_LockOk.j2 k2 x3_2 x20_2 l0_1 (l0_1.length : Int) x20_2 false a0_0 l0_1 l0_2 ((rd_T60 l0_1 x20_2).f0) ((rd_T60 l0_1 x20_2).f1) ((rd_T60 l0_1 x20_2).f2) ((rd_T60 l0_1 x20_2).f3)))) else (if (rd_T60 l0_1 x20_2).f3 = true then (impl_LockOk.j2 k2 x3_2 x20_2 l0_1 (l0_1.length : Int) x20_2 (((rd_T60 l0_1 x20_2).f0) != 3) a0_0 l0_1 l0_2 ((rd_T60 l0_1 x20_2).f0) ((rd_T60 l0_1 x20_2).f1) ((rd_T60 l0_1 x20_2).f2) ((rd_T60 l0_1 x20_2).f3)) else (impl_LockOk.j2 k2 x3_2 x20_2 l0_1 (l0_1.length : Int) x20_2 false a0_0 l0_1 l0_2 ((rd_T60 l0_1 x20_2).f0) ((rd_T60 l0_1 x20_2).f1) ((rd_T60 l0_1 x20_2).f2) ((rd_T60 l0_1 x20_2).f3)))) else (impl_LockOk.j2 k2 x3_2 x20_2 l0_1 (l0_1.length : Int) x20_2 true a0_0 l0_1 l0_2 ((rd_T60 l0_1 x20_2).f0) ((rd_T60 l0_1 x20_2).f1) ((rd_T60 l0_1 x20_2).f2) ((rd_T60 l0_1 x20_2).f3))))) = some r := by rw [if_pos rfl] at H; exact H
            clear H
            have H := H1
            clear H1
            by_cases c22 : ((rd_T60 l0_1 x20_2).f1) > 0
            ·rw [if_pos c22] at H
             have c22b0 : decide (0 < ((rd_T60 l0_1 x20_2).f1)) = true := decide_eq_true c22
             clear c22
             (first | rw [c22b0] | (simp only [i64_w,i32_w]; rw [c22b0]) | skip)
             by_cases c23 : ((rd_T60 l0_1 x20_2).f0) = 1
             ·rw [if_pos c23] at H
              have c23b0 : (((rd_T60 l0_1 x20_2).f0) == 1) = true := beq_iff_eq.mpr c23
              have c23b1 : (((rd_T60 l0_1 x20_2).f0) != 1) = false := bne_eq_false_iff_eq.mpr c23
              clear c23
              replace H := Option.bind_eq_some_iff.mp H
              obtain ⟨t110,A240,H⟩ := H
              replace H : (if t110 = true then (if ((rd_T60 l0_1 x20_2).f0) > 0 then (if ((rd_T60 l0_1 x20_2).f2) = 0 then (impl_LockOk.j2 k2 x3_2 x20_2 l0_1 (l0_1.length : Int) x20_2 true a0_0 l0_1 l0_2 ((rd_T60 l0_1 x20_2).f0) ((rd_T60 l0_1 x20_2).f1) ((rd_T60 l0_1 x20_2).f2) ((rd_T60 l0_1 x20_2).f3)) else (if (rd_T60 l0_1 x20_2).f3 = true then (impl_LockOk.j2 k2 x3_2 x20_2 l0_1 (l0_1.length : Int) x20_2 (((rd_T60 l0_1 x20_2).f0) != 3) a0_0 l0_1 l0_2 ((rd_T60 l0_1 x20_2).f0) ((rd_T60 l0_1 x20_2).f1) ((rd_T60 l0_1 x20_2).f2) ((rd_T60 l0_1 x20_2).f3)) else (impl_LockOk.j2 k2 x3_2 x20_2 l0_1 (l0_1.length : Int) x20_2 false a0_0 l0_1 l0_2 ((rd_T60 l0_1 x20_2).f0) ((rd_T60 l0_1 x20_2).f1) ((rd_T60 l0_1 x20_2).f2) ((rd_T60 l0_1 x20_2).f3)))) else (if (rd_T60 l0_1 x20_2).f3 = true then (impl_LockOk.j2 k2 x3_2 x20_2 l0_1 (l0_1.length : Int) x20_2 (((rd_T60 l0_1 x20_2).f0) != 3) a0_0 l0_1 l0_2 ((rd_T60 l0_1 x20_2).f0) ((rd_T60 l0_1 x20_2).f1) ((rd_T60 l0_1 x20_2).f2) ((rd_T60 l0_1 x20_2).f3)) else (impl_LockOk.j2 k2 x3_2 x20_2 l0_1 (l0_1.length : Int) x20_2 false a0_0 l0_1 l0_2 ((rd_T60 l0_1 x20_2).f0) ((rd_T60 l0_1 x20_2).f1) ((rd_T60 l0_1 x20_2).f2) ((rd_T60 l0_1 x20_2).f3)))) else (impl_LockOk.j2 k2 x3_2 x20_2 l0_1 (l0_1.length : Int) x20_2 true a0_0 l0_1 l0_2 ((rd_T60 l0_1 x20_2).f0) ((rd_T60 l0_1 x20_2).f1) ((rd_T60 l0_1 x20_2).f2) ((rd_T60 l0_1 x20_2).f3))) = some r := H
              have A24 := Aside0.mk A240
              clear A240
              by_cases c25 : t110 = true
              ·subst c25
               have H1 : (if ((rd_T60 l0_1 x20_2).f0) > 0 then (if ((rd_T60 l0_1 x20_2).f2) = 0 then (impl_LockOk.j2 k2 x3_2 x20_2 l0_1 (l0_1.length : Int) x20_2 true a0_0 l0_1 l0_2 ((rd_T60 l0_1 x20_2).f0) ((rd_T60 l0_1 x20_2).f1) ((rd_T60 l0_1 x20_2).f2) ((rd_T60 l0_1 x20_2).f3)) else (if (rd_T60 l0_1 x20_2).f3 = true then (impl_LockOk.j2 k2 x3_2 x20_2 l0_1 (l0_1.length : Int) x20_2 (((rd_T60 l0_1 x20_2).f0) != 3) a0_0 l0_1 l0_2 ((rd_T60 l0_1 x20_2).f0) ((rd_T60 l0_1 x20_2).f1) ((rd_T60 l0_1 x20_2).f2) ((rd_T60 l0_1 x20_2).f3)) else (impl_LockOk.j2 k2 x3_2 x20_2 l0_1 (l0_1.length : Int) x20_2 false a0_0 l0_1 l0_2 ((rd_T60 l0_1 x20_2).f0) ((rd_T60 l0_1 x20_2).f1) ((rd_T60 l0_1 x20_2).f2) ((rd_T60 l0_1 x20_2).f3)))) else (if (rd_T60 l0_1 x20_2).f3 = true then (impl_LockOk.j2 k2 x3_2 x20_2 l0_1 (l0_1.length : Int) x20_2 (((rd_T60 l0_1 x20_2).f0) != 3) a0_0 l0_1 l0_2 ((rd_T60 l0_1 x20_2).f0) ((rd_T60 l0_1 x20_2).f1) ((rd_T60 l0_1 x20_2).f2) ((rd_T60 l0_1 x20_2).f3)) else (impl_LockOk.j2 k2 x3_2 x20_2 l0_1 (l0_1.length : Int) x20_2 false a0_0 l0_1 l0_2 ((rd_T60 l0_1 x20_2).f0) ((rd_T60 l0_1 x20_2).f1) ((rd_T60 l0_1 x20_2).f2) ((rd_T60 l0_1 x20_2).f3)))) = some r := by rw [if_pos rfl] at H; exact H
               clear H
               have H := H1
               clear H1
               by_cases c26 : ((rd_T60 l0_1 x20_2).f0) > 0
               ·rw [if_pos c26] at H
                have c26b0 : decide (0 < ((rd_T60 l0_1 x20_2).f0)) = true := decide_eq_true c26
                clear c26
                by_cases c27 : ((rd_T60 l0_1 x20_2).f2) = 0
                ·rw [if_pos c27] at H
                 have c27b0 : (((rd_T60 l0_1 x20_2).f2) == 0) = true := beq_iff_eq.mpr c27
                 have c27b1 : (((rd_T60 l0_1 x20_2).f2) != 0) = false := bne_eq_false_iff_eq.mpr c27
                 clear c27
                 have H' := Aside0.mk H
                 clear H
                 have hnb28 := NB107_103.out
                 have hnc28 := NB103_107.out
                 have hcz29_0 : w15.cell? ⟨gb107,0,none⟩ = some (.int .i64 0) := (blk_cell BK107.out 0).trans rfl
                 have hcz29_1 : w15.cell? ⟨gb107,1,none⟩ = some (.int .i64 0) := (blk_cell BK107.out 1).trans rfl
                 have hcz29_2 : w15.cell? ⟨gb107,2,none⟩ = some (.int .i64 0) := (blk_cell BK107.out 2).trans rfl
                 have hcz29_3 : w15.cell? ⟨gb107,3,none⟩ = some (.bool false) := (blk_cell BK107.out 3).trans rfl
                 have hfz29_0 := blk_frozen BK107.out 0
                 have hfz29_1 := blk_frozen BK107.out 1
                 have hfz29_2 := blk_frozen BK107.out 2
                 have hfz29_3 := blk_frozen BK107.out 3
                 go_wp2_with (first | (go_at_call 30; (with_reducible refine (impl_in.calls ((rd_T60 l0_1 x20_2).f0) 0 6 true _ A18.out).mono ?_); rintro e w' ⟨rfl,⟨nd,rfl⟩⟩; (try first | exact ⟨rfl,_,World.drewN_drewN _ _ _⟩ | exact ⟨rfl,_,Eq.trans (World.drewN_drewN _ _ _) (congrArg (World.drewN _) (Nat.add_assoc _ _ _))⟩)) | (go_at_call 30; (with_reducible refine (impl_in.calls ((rd_T60 l0_1 x20_2).f1) 0 2 true _ A20.out).mono ?_); rintro e w' ⟨rfl,⟨nd,rfl⟩⟩; (try first | exact ⟨rfl,_,World.drewN_drewN _ _ _⟩ | exact ⟨rfl,_,Eq.trans (World.drewN_drewN _ _ _) (congrArg (World.drewN _) (Nat.add_assoc _ _ _))⟩)) | (go_at_call 30; (with_reducible refine (impl_in.calls ((rd_T60 l0_1 x20_2).f2) 0 3 true _ A24.out).mono ?_); rintro e w' ⟨rfl,⟨nd,rfl⟩⟩; (try first | exact ⟨rfl,_,World.drewN_drewN _ _ _⟩ | exact ⟨rfl,_,Eq.trans (World.drewN_drewN _ _ _) (congrArg (World.drewN _) (Nat.add_assoc _ _ _))⟩)))
                 repeat (go_quiet (first | (go_at_call 30; (with_reducible refine (impl_in.calls ((rd_T60 l0_1 x20_2).f0) 0 6 true _ A18.out).mono ?_); rintro e w' ⟨rfl,⟨nd,rfl⟩⟩; (try first | exact ⟨rfl,_,World.drewN_drewN _ _ _⟩ | exact ⟨rfl,_,Eq.trans (World.drewN_drewN _ _ _) (congrArg (World.drewN _) (Nat.add_assoc _ _ _))⟩)) | (go_at_call 30; (with_reducible refine (impl_in.calls ((rd_T60 l0_1 x20_2).f1) 0 2 true _ A20.out).mono ?_); rintro e w' ⟨rfl,⟨nd,rfl⟩⟩; (try first | exact ⟨rfl,_,World.drewN_drewN _ _ _⟩ | exact ⟨rfl,_,Eq.trans (World.drewN_drewN _ _ _) (congrArg (World.drewN _) (Nat.add_assoc _ _ _))⟩)) | (go_at_call 30; (with_reducible refine (impl_in.calls ((rd_T60 l0_1 x20_2).f2) 0 3 true _ A24.out).mono ?_); rintro e w' ⟨rfl,⟨nd,rfl⟩⟩; (try first | exact ⟨rfl,_,World.drewN_drewN _ _ _⟩ | exact ⟨rfl,_,Eq.trans (World.drewN_drewN _ _ _) (congrArg (World.drewN _) (Nat.add_assoc _ _ _))⟩))); try go_wp2_with (first | (go_at_call 30; (with_reducible refine (impl_in.calls ((rd_T60 l0_1 x20_2).f0) 0 6 true _ A18.out).mono ?_); rintro e w' ⟨rfl,⟨nd,rfl⟩⟩; (try first | exact ⟨rfl,_,World.drewN_drewN _ _ _⟩ | exact ⟨rfl,_,Eq.trans (World.drewN_drewN _ _ _) (congrArg (World.drewN _) (Nat.add_assoc _ _ _))⟩)) | (go_at_call 30; (with_reducible refine (impl_in.calls ((rd_T60 l0_1 x20_2).f1) 0 2 true _ A20.out).mono ?_); rintro e w' ⟨rfl,⟨nd,rfl⟩⟩; (try first | exact ⟨rfl,_,World.drewN_drewN _ _ _⟩ | exact ⟨rfl,_,Eq.trans (World.drewN_drewN _ _ _) (congrArg (World.drewN _) (Nat.add_assoc _ _ _))⟩)) | (go_at_call 30; (with_reducible refine (impl_in.calls ((rd_T60 l0_1 x20_2).f2) 0 3 true _ A24.out).mono ?_); rintro e w' ⟨rfl,⟨nd,rfl⟩⟩; (try first | exact ⟨rfl,_,World.drewN_drewN _ _ _⟩ | exact ⟨rfl,_,Eq.trans (World.drewN_drewN _ _ _) (congrArg (World.drewN _) (Nat.add_assoc _ _ _))⟩))))
                 go_meet
                 case rel => exact ⟨_,(true),(by first | rfl | (simp; done) | (simp [*]; done)),H',⟨by have := HJ1.out; have := HK2.out; first | omega | exact Nat.le_refl _⟩,⟨by (with_reducible repeat (first | refine blk_drewN ?_ _ | refine blk_drew ?_ | refine blk_alloc ?_ _)); refine blk_far ?_ NB103_107.out _; (with_reducible repeat (first | refine blk_drewN ?_ _ | refine blk_drew ?_ | refine blk_alloc ?_ _)); refine blk_far ?_ NB103_107.out _; (with_reducible repeat (first | refine blk_drewN ?_ _ | refine blk_drew ?_ | refine blk_alloc ?_ _)); refine blk_far ?_ NB103_107.out _; (with_reducible repeat (first | refine blk_drewN ?_ _ | refine blk_drew ?_ | refine blk_alloc ?_ _)); refine blk_far ?_ NB103_107.out _; (with_reducible repeat (first | refine blk_drewN ?_ _ | refine blk_drew ?_ | refine blk_alloc ?_ _)); first | exact BK103.out | (simp only [*]; exact BK103.out)⟩,⟨by (with_reducible repeat (first | refine blk_drewN ?_ _ | refine blk_drew ?_ | refine blk_alloc ?_ _)); refine blk_put (cs := #[.int .i64 ((rd_T60 l0_1 x20_2).f0),.int .i64 ((rd_T60 l0_1 x20_2).f1),.int .i64 ((rd_T60 l0_1 x20_2).f2),.bool false]) ?_ 3 _ rfl; (with_reducible repeat (first | refine blk_drewN ?_ _ | refine blk_drew ?_ | refine blk_alloc ?_ _)); refine blk_put (cs := #[.int .i64 ((rd_T60 l0_1 x20_2).f0),.int .i64 ((rd_T60 l0_1 x20_2).f1),.int .i64 0,.bool false]) ?_ 2 _ rfl; (with_reducible repeat (first | refine blk_drewN ?_ _ | refine blk_drew ?_ | refine blk_alloc ?_ _)); refine blk_put (cs := #[.int .i64 ((rd_T60 l0_1 x20_2).f0),.int .i64 0,.int .i64 0,.bool false]) ?_ 1 _ rfl; (with_reducible repeat (first | refine blk_drewN ?_ _ | refine blk_drew ?_ | refine blk_alloc ?_ _)); refine blk_put (cs := #[.int .i64 0,.int .i64 0,.int .i64 0,.bool false]) ?_ 0 _ rfl; (with_reducible repeat (first | refine blk_drewN ?_ _ | refine blk_drew ?_ | refine blk_alloc ?_ _)); first | exact BK107.out | (simp only [*]; exact BK107.out)⟩,⟨by repeat (first | (with_reducible first | exact HB.out | apply below_alloc | apply pw_below_drewN | apply below_drew1 | refine below_set ?_ GE103.out | refine below_set ?_ GE107.out) | exact HB.out)⟩⟩
                ·rw [if_neg c27] at H
                 have c27b0 : (((rd_T60 l0_1 x20_2).f2) == 0) = false := beq_eq_false_iff_ne.mpr c27
                 have c27b1 : (((rd_T60 l0_1 x20_2).f2) != 0) = true := bne_iff_ne.mpr c27
                 obtain ⟨bq30,hbq30⟩ : ∃ b_ : Bool,b_ = ((rd_T60 l0_1 x20_2).f3) := ⟨_,rfl⟩
                 replace H : (if bq30 = true then (impl_LockOk.j2 k2 x3_2 x20_2 l0_1 (l0_1.length : Int) x20_2 (((rd_T60 l0_1 x20_2).f0) != 3) a0_0 l0_1 l0_2 ((rd_T60 l0_1 x20_2).f0) ((rd_T60 l0_1 x20_2).f1) ((rd_T60 l0_1 x20_2).f2) bq30) else (impl_LockOk.j2 k2 x3_2 x20_2 l0_1 (l0_1.length : Int) x20_2 false a0_0 l0_1 l0_2 ((rd_T60 l0_1 x20_2).f0) ((rd_T60 l0_1 x20_2).f1) ((rd_T60 l0_1 x20_2).f2) bq30)) = some r := by rw [← hbq30] at H; exact H
                 have Nbq30 := Aside0.mk hbq30
                 clear hbq30
                 by_cases c31 : bq30 = true
                 ·subst c31
                  (try rw [← Nbq30.out])
                  have H1 : (impl_LockOk.j2 k2 x3_2 x20_2 l0_1 (l0_1.length : Int) x20_2 (((rd_T60 l0_1 x20_2).f0) != 3) a0_0 l0_1 l0_2 ((rd_T60 l0_1 x20_2).f0) ((rd_T60 l0_1 x20_2).f1) ((rd_T60 l0_1 x20_2).f2) true) = some r := by rw [if_pos rfl] at H; exact H
                  clear H
                  have H := H1
                  clear H1
                  have H' := Aside0.mk H
                  clear H
                  have hnb32 := NB107_103.out
                  have hnc32 := NB103_107.out
                  have hcz33_0 : w15.cell? ⟨gb107,0,none⟩ = some (.int .i64 0) := (blk_cell BK107.out 0).trans rfl
                  have hcz33_1 : w15.cell? ⟨gb107,1,none⟩ = some (.int .i64 0) := (blk_cell BK107.out 1).trans rfl
                  have hcz33_2 : w15.cell? ⟨gb107,2,none⟩ = some (.int .i64 0) := (blk_cell BK107.out 2).trans rfl
                  have hcz33_3 : w15.cell? ⟨gb107,3,none⟩ = some (.bool false) := (blk_cell BK107.out 3).trans rfl
                  have hfz33_0 := blk_frozen BK107.out 0
                  have hfz33_1 := blk_frozen BK107.out 1
                  have hfz33_2 := blk_frozen BK107.out 2
                  have hfz33_3 := blk_frozen BK107.out 3
                  go_wp2_with (first | (go_at_call 30; (with_reducible refine (impl_in.calls ((rd_T60 l0_1 x20_2).f0) 0 6 true _ A18.out).mono ?_); rintro e w' ⟨rfl,⟨nd,rfl⟩⟩; (try first | exact ⟨rfl,_,World.drewN_drewN _ _ _⟩ | exact ⟨rfl,_,Eq.trans (World.drewN_drewN _ _ _) (congrArg (World.drewN _) (Nat.add_assoc _ _ _))⟩)) | (go_at_call 30; (with_reducible refine (impl_in.calls ((rd_T60 l0_1 x20_2).f1) 0 2 true _ A20.out).mono ?_); rintro e w' ⟨rfl,⟨nd,rfl⟩⟩; (try first | exact ⟨rfl,_,World.drewN_drewN _ _ _⟩ | exact ⟨rfl,_,Eq.trans (World.drewN_drewN _ _ _) (congrArg (World.drewN _) (Nat.add_assoc _ _ _))⟩)) | (go_at_call 30; (with_reducible refine (impl_in.calls ((rd_T60 l0_1 x20_2).f2) 0 3 true _ A24.out).mono ?_); rintro e w' ⟨rfl,⟨nd,rfl⟩⟩; (try first | exact ⟨rfl,_,World.drewN_drewN _ _ _⟩ | exact ⟨rfl,_,Eq.trans (World.drewN_drewN _ _ _) (congrArg (World.drewN _) (Nat.add_assoc _ _ _))⟩)))
                  repeat (go_quiet (first | (go_at_call 30; (with_reducible refine (impl_in.calls ((rd_T60 l0_1 x20_2).f0) 0 6 true _ A18.out).mono ?_); rintro e w' ⟨rfl,⟨nd,rfl⟩⟩; (try first | exact ⟨rfl,_,World.drewN_drewN _ _ _⟩ | exact ⟨rfl,_,Eq.trans (World.drewN_drewN _ _ _) (congrArg (World.drewN _) (Nat.add_assoc _ _ _))⟩)) | (go_at_call 30; (with_reducible refine (impl_in.calls ((rd_T60 l0_1 x20_2).f1) 0 2 true _ A20.out).mono ?_); rintro e w' ⟨rfl,⟨nd,rfl⟩⟩; (try first | exact ⟨rfl,_,World.drewN_drewN _ _ _⟩ | exact ⟨rfl,_,Eq.trans (World.drewN_drewN _ _ _) (congrArg (World.drewN _) (Nat.add_assoc _ _ _))⟩)) | (go_at_call 30; (with_reducible refine (impl_in.calls ((rd_T60 l0_1 x20_2).f2) 0 3 true _ A24.out).mono ?_); rintro e w' ⟨rfl,⟨nd,rfl⟩⟩; (try first | exact ⟨rfl,_,World.drewN_drewN _ _ _⟩ | exact ⟨rfl,_,Eq.trans (World.drewN_drewN _ _ _) (congrArg (World.drewN _) (Nat.add_assoc _ _ _))⟩))); try go_wp2_with (first | (go_at_call 30; (with_reducible refine (impl_in.calls ((rd_T60 l0_1 x20_2).f0) 0 6 true _ A18.out).mono ?_); rintro e w' ⟨rfl,⟨nd,rfl⟩⟩; (try first | exact ⟨rfl,_,World.drewN_drewN _ _ _⟩ | exact ⟨rfl,_,Eq.trans (World.drewN_drewN _ _ _) (congrArg (World.drewN _) (Nat.add_assoc _ _ _))⟩)) | (go_at_call 30; (with_reducible refine (impl_in.calls ((rd_T60 l0_1 x20_2).f1) 0 2 true _ A20.out).mono ?_); rintro e w' ⟨rfl,⟨nd,rfl⟩⟩; (try first | exact ⟨rfl,_,World.drewN_drewN _ _ _⟩ | exact ⟨rfl,_,Eq.trans (World.drewN_drewN _ _ _) (congrArg (World.drewN _) (Nat.add_assoc _ _ _))⟩)) | (go_at_call 30; (with_reducible refine (impl_in.calls ((rd_T60 l0_1 x20_2).f2) 0 3 true _ A24.out).mono ?_); rintro e w' ⟨rfl,⟨nd,rfl⟩⟩; (try first | exact ⟨rfl,_,World.drewN_drewN _ _ _⟩ | exact ⟨rfl,_,Eq.trans (World.drewN_drewN _ _ _) (congrArg (World.drewN _) (Nat.add_assoc _ _ _))⟩))))
                  go_meet
                  case rel => (try rw [← Nbq30.out]); exact ⟨_,((((rd_T60 l0_1 x20_2).f0) != 3)),(by first | rfl | (simp; done) | (simp [*]; done)),H',⟨by have := HJ1.out; have := HK2.out; first | omega | exact Nat.le_refl _⟩,⟨by (with_reducible repeat (first | refine blk_drewN ?_ _ | refine blk_drew ?_ | refine blk_alloc ?_ _)); refine blk_far ?_ NB103_107.out _; (with_reducible repeat (first | refine blk_drewN ?_ _ | refine blk_drew ?_ | refine blk_alloc ?_ _)); refine blk_far ?_ NB103_107.out _; (with_reducible repeat (first | refine blk_drewN ?_ _ | refine blk_drew ?_ | refine blk_alloc ?_ _)); refine blk_far ?_ NB103_107.out _; (with_reducible repeat (first | refine blk_drewN ?_ _ | refine blk_drew ?_ | refine blk_alloc ?_ _)); refine blk_far ?_ NB103_107.out _; (with_reducible repeat (first | refine blk_drewN ?_ _ | refine blk_drew ?_ | refine blk_alloc ?_ _)); first | exact BK103.out | (simp only [*]; exact BK103.out)⟩,⟨by (with_reducible repeat (first | refine blk_drewN ?_ _ | refine blk_drew ?_ | refine blk_alloc ?_ _)); refine blk_put (cs := #[.int .i64 ((rd_T60 l0_1 x20_2).f0),.int .i64 ((rd_T60 l0_1 x20_2).f1),.int .i64 ((rd_T60 l0_1 x20_2).f2),.bool false]) ?_ 3 _ rfl; (with_reducible repeat (first | refine blk_drewN ?_ _ | refine blk_drew ?_ | refine blk_alloc ?_ _)); refine blk_put (cs := #[.int .i64 ((rd_T60 l0_1 x20_2).f0),.int .i64 ((rd_T60 l0_1 x20_2).f1),.int .i64 0,.bool false]) ?_ 2 _ rfl; (with_reducible repeat (first | refine blk_drewN ?_ _ | refine blk_drew ?_ | refine blk_alloc ?_ _)); refine blk_put (cs := #[.int .i64 ((rd_T60 l0_1 x20_2).f0),.int .i64 0,.int .i64 0,.bool false]) ?_ 1 _ rfl; (with_reducible repeat (first | refine blk_drewN ?_ _ | refine blk_drew ?_ | refine blk_alloc ?_ _)); refine blk_put (cs := #[.int .i64 0,.int .i64 0,.int .i64 0,.bool false]) ?_ 0 _ rfl; (with_reducible repeat (first | refine blk_drewN ?_ _ | refine blk_drew ?_ | refine blk_alloc ?_ _)); first | exact BK107.out | (simp only [*]; exact BK107.out)⟩,⟨by repeat (first | (with_reducible first | exact HB.out | apply below_alloc | apply pw_below_drewN | apply below_drew1 | refine below_set ?_ GE103.out | refine below_set ?_ GE107.out) | exact HB.out)⟩⟩
                 ·replace c31 := Bool.eq_false_iff.mpr c31
                  subst c31
                  (try rw [← Nbq30.out])
                  have H1 : (impl_LockOk.j2 k2 x3_2 x20_2 l0_1 (l0_1.length : Int) x20_2 false a0_0 l0_1 l0_2 ((rd_T60 l0_1 x20_2).f0) ((rd_T60 l0_1 x20_2).f1) ((rd_T60 l0_1 x20_2).f2) false) = some r := by rw [if_neg (show ¬ (false = true) by decide)] at H; exact H
                  clear H
                  have H := H1
                  clear H1
                  have H' := Aside0.mk H
                  clear H
                  have hnb34 := NB107_103.out
                  have hnc34 := NB103_107.out
                  have hcz35_0 : w15.cell? ⟨gb107,0,none⟩ = some (.int .i64 0) := (blk_cell BK107.out 0).trans rfl
                  have hcz35_1 : w15.cell? ⟨gb107,1,none⟩ = some (.int .i64 0) := (blk_cell BK107.out 1).trans rfl
                  have hcz35_2 : w15.cell? ⟨gb107,2,none⟩ = some (.int .i64 0) := (blk_cell BK107.out 2).trans rfl
                  have hcz35_3 : w15.cell? ⟨gb107,3,none⟩ = some (.bool false) := (blk_cell BK107.out 3).trans rfl
                  have hfz35_0 := blk_frozen BK107.out 0
                  have hfz35_1 := blk_frozen BK107.out 1
                  have hfz35_2 := blk_frozen BK107.out 2
                  have hfz35_3 := blk_frozen BK107.out 3
                  go_wp2_with (first | (go_at_call 30; (with_reducible refine (impl_in.calls ((rd_T60 l0_1 x20_2).f0) 0 6 true _ A18.out).mono ?_); rintro e w' ⟨rfl,⟨nd,rfl⟩⟩; (try first | exact ⟨rfl,_,World.drewN_drewN _ _ _⟩ | exact ⟨rfl,_,Eq.trans (World.drewN_drewN _ _ _) (congrArg (World.drewN _) (Nat.add_assoc _ _ _))⟩)) | (go_at_call 30; (with_reducible refine (impl_in.calls ((rd_T60 l0_1 x20_2).f1) 0 2 true _ A20.out).mono ?_); rintro e w' ⟨rfl,⟨nd,rfl⟩⟩; (try first | exact ⟨rfl,_,World.drewN_drewN _ _ _⟩ | exact ⟨rfl,_,Eq.trans (World.drewN_drewN _ _ _) (congrArg (World.drewN _) (Nat.add_assoc _ _ _))⟩)) | (go_at_call 30; (with_reducible refine (impl_in.calls ((rd_T60 l0_1 x20_2).f2) 0 3 true _ A24.out).mono ?_); rintro e w' ⟨rfl,⟨nd,rfl⟩⟩; (try first | exact ⟨rfl,_,World.drewN_drewN _ _ _⟩ | exact ⟨rfl,_,Eq.trans (World.drewN_drewN _ _ _) (congrArg (World.drewN _) (Nat.add_assoc _ _ _))⟩)))
                  repeat (go_quiet (first | (go_at_call 30; (with_reducible refine (impl_in.calls ((rd_T60 l0_1 x20_2).f0) 0 6 true _ A18.out).mono ?_); rintro e w' ⟨rfl,⟨nd,rfl⟩⟩; (try first | exact ⟨rfl,_,World.drewN_drewN _ _ _⟩ | exact ⟨rfl,_,Eq.trans (World.drewN_drewN _ _ _) (congrArg (World.drewN _) (Nat.add_assoc _ _ _))⟩)) | (go_at_call 30; (with_reducible refine (impl_in.calls ((rd_T60 l0_1 x20_2).f1) 0 2 true _ A20.out).mono ?_); rintro e w' ⟨rfl,⟨nd,rfl⟩⟩; (try first | exact ⟨rfl,_,World.drewN_drewN _ _ _⟩ | exact ⟨rfl,_,Eq.trans (World.drewN_drewN _ _ _) (congrArg (World.drewN _) (Nat.add_assoc _ _ _))⟩)) | (go_at_call 30; (with_reducible refine (impl_in.calls ((rd_T60 l0_1 x20_2).f2) 0 3 true _ A24.out).mono ?_); rintro e w' ⟨rfl,⟨nd,rfl⟩⟩; (try first | exact ⟨rfl,_,World.drewN_drewN _ _ _⟩ | exact ⟨rfl,_,Eq.trans (World.drewN_drewN _ _ _) (congrArg (World.drewN _) (Nat.add_assoc _ _ _))⟩))); try go_wp2_with (first | (go_at_call 30; (with_reducible refine (impl_in.calls ((rd_T60 l0_1 x20_2).f0) 0 6 true _ A18.out).mono ?_); rintro e w' ⟨rfl,⟨nd,rfl⟩⟩; (try first | exact ⟨rfl,_,World.drewN_drewN _ _ _⟩ | exact ⟨rfl,_,Eq.trans (World.drewN_drewN _ _ _) (congrArg (World.drewN _) (Nat.add_assoc _ _ _))⟩)) | (go_at_call 30; (with_reducible refine (impl_in.calls ((rd_T60 l0_1 x20_2).f1) 0 2 true _ A20.out).mono ?_); rintro e w' ⟨rfl,⟨nd,rfl⟩⟩; (try first | exact ⟨rfl,_,World.drewN_drewN _ _ _⟩ | exact ⟨rfl,_,Eq.trans (World.drewN_drewN _ _ _) (congrArg (World.drewN _) (Nat.add_assoc _ _ _))⟩)) | (go_at_call 30; (with_reducible refine (impl_in.calls ((rd_T60 l0_1 x20_2).f2) 0 3 true _ A24.out).mono ?_); rintro e w' ⟨rfl,⟨nd,rfl⟩⟩; (try first | exact ⟨rfl,_,World.drewN_drewN _ _ _⟩ | exact ⟨rfl,_,Eq.trans (World.drewN_drewN _ _ _) (congrArg (World.drewN _) (Nat.add_assoc _ _ _))⟩))))
                  go_meet
                  case rel => (try rw [← Nbq30.out]); exact ⟨_,(false),(by first | rfl | (simp; done) | (simp [*]; done)),H',⟨by have := HJ1.out; have := HK2.out; first | omega | exact Nat.le_refl _⟩,⟨by (with_reducible repeat (first | refine blk_drewN ?_ _ | refine blk_drew ?_ | refine blk_alloc ?_ _)); refine blk_far ?_ NB103_107.out _; (with_reducible repeat (first | refine blk_drewN ?_ _ | refine blk_drew ?_ | refine blk_alloc ?_ _)); refine blk_far ?_ NB103_107.out _; (with_reducible repeat (first | refine blk_drewN ?_ _ | refine blk_drew ?_ | refine blk_alloc ?_ _)); refine blk_far ?_ NB103_107.out _; (with_reducible repeat (first | refine blk_drewN ?_ _ | refine blk_drew ?_ | refine blk_alloc ?_ _)); refine blk_far ?_ NB103_107.out _; (with_reducible repeat (first | refine blk_drewN ?_ _ | refine blk_drew ?_ | refine blk_alloc ?_ _)); first | exact BK103.out | (simp only [*]; exact BK103.out)⟩,⟨by (with_reducible repeat (first | refine blk_drewN ?_ _ | refine blk_drew ?_ | refine blk_alloc ?_ _)); refine blk_put (cs := #[.int .i64 ((rd_T60 l0_1 x20_2).f0),.int .i64 ((rd_T60 l0_1 x20_2).f1),.int .i64 ((rd_T60 l0_1 x20_2).f2),.bool false]) ?_ 3 _ rfl; (with_reducible repeat (first | refine blk_drewN ?_ _ | refine blk_drew ?_ | refine blk_alloc ?_ _)); refine blk_put (cs := #[.int .i64 ((rd_T60 l0_1 x20_2).f0),.int .i64 ((rd_T60 l0_1 x20_2).f1),.int .i64 0,.bool false]) ?_ 2 _ rfl; (with_reducible repeat (first | refine blk_drewN ?_ _ | refine blk_drew ?_ | refine blk_alloc ?_ _)); refine blk_put (cs := #[.int .i64 ((rd_T60 l0_1 x20_2).f0),.int .i64 0,.int .i64 0,.bool false]) ?_ 1 _ rfl; (with_reducible repeat (first | refine blk_drewN ?_ _ | refine blk_drew ?_ | refine blk_alloc ?_ _)); refine blk_put (cs := #[.int .i64 0,.int .i64 0,.int .i64 0,.bool false]) ?_ 0 _ rfl; (with_reducible repeat (first | refine blk_drewN ?_ _ | refine blk_drew ?_ | refine blk_alloc ?_ _)); first | exact BK107.out | (simp only [*]; exact BK107.out)⟩,⟨by repeat (first | (with_reducible first | exact HB.out | apply below_alloc | apply pw_below_drewN | apply below_drew1 | refine below_set ?_ GE103.out | refine below_set ?_ GE107.out) | exact HB.out)⟩⟩
               ·rw [if_neg c26] at H
                have c26b0 : decide (0 < ((rd_T60 l0_1 x20_2).f0)) = false := decide_eq_false c26
                clear c26
                obtain ⟨bq36,hbq36⟩ : ∃ b_ : Bool,b_ = ((rd_T60 l0_1 x20_2).f3) := ⟨_,rfl⟩
                replace H : (if bq36 = true then (impl_LockOk.j2 k2 x3_2 x20_2 l0_1 (l0_1.length : Int) x20_2 (((rd_T60 l0_1 x20_2).f0) != 3) a0_0 l0_1 l0_2 ((rd_T60 l0_1 x20_2).f0) ((rd_T60 l0_1 x20_2).f1) ((rd_T60 l0_1 x20_2).f2) bq36) else (impl_LockOk.j2 k2 x3_2 x20_2 l0_1 (l0_1.length : Int) x20_2 false a0_0 l0_1 l0_2 ((rd_T60 l0_1 x20_2).f0) ((rd_T60 l0_1 x20_2).f1) ((rd_T60 l0_1 x20_2).f2) bq36)) = some r := by rw [← hbq36] at H; exact H
                have Nbq36 := Aside0.mk hbq36
                clear hbq36
                by_cases c37 : bq36 = true
                ·subst c37
                 (try rw [← Nbq36.out])
                 have H1 : (impl_LockOk.j2 k2 x3_2 x20_2 l0_1 (l0_1.length : Int) x20_2 (((rd_T60 l0_1 x20_2).f0) != 3) a0_0 l0_1 l0_2 ((rd_T60 l0_1 x20_2).f0) ((rd_T60 l0_1 x20_2).f1) ((rd_T60 l0_1 x20_2).f2) true) = some r := by rw [if_pos rfl] at H; exact H
                 clear H
                 have H := H1
                 clear H1
                 have H' := Aside0.mk H
                 clear H
                 have hnb38 := NB107_103.out
                 have hnc38 := NB103_107.out
                 have hcz39_0 : w15.cell? ⟨gb107,0,none⟩ = some (.int .i64 0) := (blk_cell BK107.out 0).trans rfl
                 have hcz39_1 : w15.cell? ⟨gb107,1,none⟩ = some (.int .i64 0) := (blk_cell BK107.out 1).trans rfl
                 have hcz39_2 : w15.cell? ⟨gb107,2,none⟩ = some (.int .i64 0) := (blk_cell BK107.out 2).trans rfl
                 have hcz39_3 : w15.cell? ⟨gb107,3,none⟩ = some (.bool false) := (blk_cell BK107.out 3).trans rfl
                 have hfz39_0 := blk_frozen BK107.out 0
                 have hfz39_1 := blk_frozen BK107.out 1
                 have hfz39_2 := blk_frozen BK107.out 2
                 have hfz39_3 := blk_frozen BK107.out 3
                 go_wp2_with (first | (go_at_call 30; (with_reducible refine (impl_in.calls ((rd_T60 l0_1 x20_2).f0) 0 6 true _ A18.out).mono ?_); rintro e w' ⟨rfl,⟨nd,rfl⟩⟩; (try first | exact ⟨rfl,_,World.drewN_drewN _ _ _⟩ | exact ⟨rfl,_,Eq.trans (World.drewN_drewN _ _ _) (congrArg (World.drewN _) (Nat.add_assoc _ _ _))⟩)) | (go_at_call 30; (with_reducible refine (impl_in.calls ((rd_T60 l0_1 x20_2).f1) 0 2 true _ A20.out).mono ?_); rintro e w' ⟨rfl,⟨nd,rfl⟩⟩; (try first | exact ⟨rfl,_,World.drewN_drewN _ _ _⟩ | exact ⟨rfl,_,Eq.trans (World.drewN_drewN _ _ _) (congrArg (World.drewN _) (Nat.add_assoc _ _ _))⟩)) | (go_at_call 30; (with_reducible refine (impl_in.calls ((rd_T60 l0_1 x20_2).f2) 0 3 true _ A24.out).mono ?_); rintro e w' ⟨rfl,⟨nd,rfl⟩⟩; (try first | exact ⟨rfl,_,World.drewN_drewN _ _ _⟩ | exact ⟨rfl,_,Eq.trans (World.drewN_drewN _ _ _) (congrArg (World.drewN _) (Nat.add_assoc _ _ _))⟩)))
                 repeat (go_quiet (first | (go_at_call 30; (with_reducible refine (impl_in.calls ((rd_T60 l0_1 x20_2).f0) 0 6 true _ A18.out).mono ?_); rintro e w' ⟨rfl,⟨nd,rfl⟩⟩; (try first | exact ⟨rfl,_,World.drewN_drewN _ _ _⟩ | exact ⟨rfl,_,Eq.trans (World.drewN_drewN _ _ _) (congrArg (World.drewN _) (Nat.add_assoc _ _ _))⟩)) | (go_at_call 30; (with_reducible refine (impl_in.calls ((rd_T60 l0_1 x20_2).f1) 0 2 true _ A20.out).mono ?_); rintro e w' ⟨rfl,⟨nd,rfl⟩⟩; (try first | exact ⟨rfl,_,World.drewN_drewN _ _ _⟩ | exact ⟨rfl,_,Eq.trans (World.drewN_drewN _ _ _) (congrArg (World.drewN _) (Nat.add_assoc _ _ _))⟩)) | (go_at_call 30; (with_reducible refine (impl_in.calls ((rd_T60 l0_1 x20_2).f2) 0 3 true _ A24.out).mono ?_); rintro e w' ⟨rfl,⟨nd,rfl⟩⟩; (try first | exact ⟨rfl,_,World.drewN_drewN _ _ _⟩ | exact ⟨rfl,_,Eq.trans (World.drewN_drewN _ _ _) (congrArg (World.drewN _) (Nat.add_assoc _ _ _))⟩))); try go_wp2_with (first | (go_at_call 30; (with_reducible refine (impl_in.calls ((rd_T60 l0_1 x20_2).f0) 0 6 true _ A18.out).mono ?_); rintro e w' ⟨rfl,⟨nd,rfl⟩⟩; (try first | exact ⟨rfl,_,World.drewN_drewN _ _ _⟩ | exact ⟨rfl,_,Eq.trans (World.drewN_drewN _ _ _) (congrArg (World.drewN _) (Nat.add_assoc _ _ _))⟩)) | (go_at_call 30; (with_reducible refine (impl_in.calls ((rd_T60 l0_1 x20_2).f1) 0 2 true _ A20.out).mono ?_); rintro e w' ⟨rfl,⟨nd,rfl⟩⟩; (try first | exact ⟨rfl,_,World.drewN_drewN _ _ _⟩ | exact ⟨rfl,_,Eq.trans (World.drewN_drewN _ _ _) (congrArg (World.drewN _) (Nat.add_assoc _ _ _))⟩)) | (go_at_call 30; (with_reducible refine (impl_in.calls ((rd_T60 l0_1 x20_2).f2) 0 3 true _ A24.out).mono ?_); rintro e w' ⟨rfl,⟨nd,rfl⟩⟩; (try first | exact ⟨rfl,_,World.drewN_drewN _ _ _⟩ | exact ⟨rfl,_,Eq.trans (World.drewN_drewN _ _ _) (congrArg (World.drewN _) (Nat.add_assoc _ _ _))⟩))))
                 go_meet
                 case rel => (try rw [← Nbq36.out]); exact ⟨_,((((rd_T60 l0_1 x20_2).f0) != 3)),(by first | rfl | (simp; done) | (simp [*]; done)),H',⟨by have := HJ1.out; have := HK2.out; first | omega | exact Nat.le_refl _⟩,⟨by (with_reducible repeat (first | refine blk_drewN ?_ _ | refine blk_drew ?_ | refine blk_alloc ?_ _)); refine blk_far ?_ NB103_107.out _; (with_reducible repeat (first | refine blk_drewN ?_ _ | refine blk_drew ?_ | refine blk_alloc ?_ _)); refine blk_far ?_ NB103_107.out _; (with_reducible repeat (first | refine blk_drewN ?_ _ | refine blk_drew ?_ | refine blk_alloc ?_ _)); refine blk_far ?_ NB103_107.out _; (with_reducible repeat (first | refine blk_drewN ?_ _ | refine blk_drew ?_ | refine blk_alloc ?_ _)); refine blk_far ?_ NB103_107.out _; (with_reducible repeat (first | refine blk_drewN ?_ _ | refine blk_drew ?_ | refine blk_alloc ?_ _)); first | exact BK103.out | (simp only [*]; exact BK103.out)⟩,⟨by (with_reducible repeat (first | refine blk_drewN ?_ _ | refine blk_drew ?_ | refine blk_alloc ?_ _)); refine blk_put (cs := #[.int .i64 ((rd_T60 l0_1 x20_2).f0),.int .i64 ((rd_T60 l0_1 x20_2).f1),.int .i64 ((rd_T60 l0_1 x20_2).f2),.bool false]) ?_ 3 _ rfl; (with_reducible repeat (first | refine blk_drewN ?_ _ | refine blk_drew ?_ | refine blk_alloc ?_ _)); refine blk_put (cs := #[.int .i64 ((rd_T60 l0_1 x20_2).f0),.int .i64 ((rd_T60 l0_1 x20_2).f1),.int .i64 0,.bool false]) ?_ 2 _ rfl; (with_reducible repeat (first | refine blk_drewN ?_ _ | refine blk_drew ?_ | refine blk_alloc ?_ _)); refine blk_put (cs := #[.int .i64 ((rd_T60 l0_1 x20_2).f0),.int .i64 0,.int .i64 0,.bool false]) ?_ 1 _ rfl; (with_reducible repeat (first | refine blk_drewN ?_ _ | refine blk_drew ?_ | refine blk_alloc ?_ _)); refine blk_put (cs := #[.int .i64 0,.int .i64 0,.int .i64 0,.bool false]) ?_ 0 _ rfl; (with_reducible repeat (first | refine blk_drewN ?_ _ | refine blk_drew ?_ | refine blk_alloc ?_ _)); first | exact BK107.out | (simp only [*]; exact BK107.out)⟩,⟨by repeat (first | (with_reducible first | exact HB.out | apply below_alloc | apply pw_below_drewN | apply below_drew1 | refine below_set ?_ GE103.out | refine below_set ?_ GE107.out) | exact HB.out)⟩⟩
                ·replace c37 := Bool.eq_false_iff.mpr c37
                 subst c37
                 (try rw [← Nbq36.out])
                 have H1 : (impl_LockOk.j2 k2 x3_2 x20_2 l0_1 (l0_1.length : Int) x20_2 false a0_0 l0_1 l0_2 ((rd_T60 l0_1 x20_2).f0) ((rd_T60 l0_1 x20_2).f1) ((rd_T60 l0_1 x20_2).f2) false) = some r := by rw [if_neg (show ¬ (false = true) by decide)] at H; exact H
                 clear H
                 have H := H1
                 clear H1
                 have H' := Aside0.mk H
                 clear H
                 have hnb40 := NB107_103.out
                 have hnc40 := NB103_107.out
                 have hcz41_0 : w15.cell? ⟨gb107,0,none⟩ = some (.int .i64 0) := (blk_cell BK107.out 0).trans rfl
                 have hcz41_1 : w15.cell? ⟨gb107,1,none⟩ = some (.int .i64 0) := (blk_cell BK107.out 1).trans rfl
                 have hcz41_2 : w15.cell? ⟨gb107,2,none⟩ = some (.int .i64 0) := (blk_cell BK107.out 2).trans rfl
                 have hcz41_3 : w15.cell? ⟨gb107,3,none⟩ = some (.bool false) := (blk_cell BK107.out 3).trans rfl
                 have hfz41_0 := blk_frozen BK107.out 0
                 have hfz41_1 := blk_frozen BK107.out 1
                 have hfz41_2 := blk_frozen BK107.out 2
                 have hfz41_3 := blk_frozen BK107.out 3
                 go_wp2_with (first | (go_at_call 30; (with_reducible refine (impl_in.calls ((rd_T60 l0_1 x20_2).f0) 0 6 true _ A18.out).mono ?_); rintro e w' ⟨rfl,⟨nd,rfl⟩⟩; (try first | exact ⟨rfl,_,World.drewN_drewN _ _ _⟩ | exact ⟨rfl,_,Eq.trans (World.drewN_drewN _ _ _) (congrArg (World.drewN _) (Nat.add_assoc _ _ _))⟩)) | (go_at_call 30; (with_reducible refine (impl_in.calls ((rd_T60 l0_1 x20_2).f1) 0 2 true _ A20.out).mono ?_); rintro e w' ⟨rfl,⟨nd,rfl⟩⟩; (try first | exact ⟨rfl,_,World.drewN_drewN _ _ _⟩ | exact ⟨rfl,_,Eq.trans (World.drewN_drewN _ _ _) (congrArg (World.drewN _) (Nat.add_assoc _ _ _))⟩)) | (go_at_call 30; (with_reducible refine (impl_in.calls ((rd_T60 l0_1 x20_2).f2) 0 3 true _ A24.out).mono ?_); rintro e w' ⟨rfl,⟨nd,rfl⟩⟩; (try first | exact ⟨rfl,_,World.drewN_drewN _ _ _⟩ | exact ⟨rfl,_,Eq.trans (World.drewN_drewN _ _ _) (congrArg (World.drewN _) (Nat.add_assoc _ _ _))⟩)))
                 repeat (go_quiet (first | (go_at_call 30; (with_reducible refine (impl_in.calls ((rd_T60 l0_1 x20_2).f0) 0 6 true _ A18.out).mono ?_); rintro e w' ⟨rfl,⟨nd,rfl⟩⟩; (try first | exact ⟨rfl,_,World.drewN_drewN _ _ _⟩ | exact ⟨rfl,_,Eq.trans (World.drewN_drewN _ _ _) (congrArg (World.drewN _) (Nat.add_assoc _ _ _))⟩)) | (go_at_call 30; (with_reducible refine (impl_in.calls ((rd_T60 l0_1 x20_2).f1) 0 2 true _ A20.out).mono ?_); rintro e w' ⟨rfl,⟨nd,rfl⟩⟩; (try first | exact ⟨rfl,_,World.drewN_drewN _ _ _⟩ | exact ⟨rfl,_,Eq.trans (World.drewN_drewN _ _ _) (congrArg (World.drewN _) (Nat.add_assoc _ _ _))⟩)) | (go_at_call 30; (with_reducible refine (impl_in.calls ((rd_T60 l0_1 x20_2).f2) 0 3 true _ A24.out).mono ?_); rintro e w' ⟨rfl,⟨nd,rfl⟩⟩; (try first | exact ⟨rfl,_,World.drewN_drewN _ _ _⟩ | exact ⟨rfl,_,Eq.trans (World.drewN_drewN _ _ _) (congrArg (World.drewN _) (Nat.add_assoc _ _ _))⟩))); try go_wp2_with (first | (go_at_call 30; (with_reducible refine (impl_in.calls ((rd_T60 l0_1 x20_2).f0) 0 6 true _ A18.out).mono ?_); rintro e w' ⟨rfl,⟨nd,rfl⟩⟩; (try first | exact ⟨rfl,_,World.drewN_drewN _ _ _⟩ | exact ⟨rfl,_,Eq.trans (World.drewN_drewN _ _ _) (congrArg (World.drewN _) (Nat.add_assoc _ _ _))⟩)) | (go_at_call 30; (with_reducible refine (impl_in.calls ((rd_T60 l0_1 x20_2).f1) 0 2 true _ A20.out).mono ?_); rintro e w' ⟨rfl,⟨nd,rfl⟩⟩; (try first | exact ⟨rfl,_,World.drewN_drewN _ _ _⟩ | exact ⟨rfl,_,Eq.trans (World.drewN_drewN _ _ _) (congrArg (World.drewN _) (Nat.add_assoc _ _ _))⟩)) | (go_at_call 30; (with_reducible refine (impl_in.calls ((rd_T60 l0_1 x20_2).f2) 0 3 true _ A24.out).mono ?_); rintro e w' ⟨rfl,⟨nd,rfl⟩⟩; (try first | exact ⟨rfl,_,World.drewN_drewN _ _ _⟩ | exact ⟨rfl,_,Eq.trans (World.drewN_drewN _ _ _) (congrArg (World.drewN _) (Nat.add_assoc _ _ _))⟩))))
                 go_meet
                 case rel => (try rw [← Nbq36.out]); exact ⟨_,(false),(by first | rfl | (simp; done) | (simp [*]; done)),H',⟨by have := HJ1.out; have := HK2.out; first | omega | exact Nat.le_refl _⟩,⟨by (with_reducible repeat (first | refine blk_drewN ?_ _ | refine blk_drew ?_ | refine blk_alloc ?_ _)); refine blk_far ?_ NB103_107.out _; (with_reducible repeat (first | refine blk_drewN ?_ _ | refine blk_drew ?_ | refine blk_alloc ?_ _)); refine blk_far ?_ NB103_107.out _; (with_reducible repeat (first | refine blk_drewN ?_ _ | refine blk_drew ?_ | refine blk_alloc ?_ _)); refine blk_far ?_ NB103_107.out _; (with_reducible repeat (first | refine blk_drewN ?_ _ | refine blk_drew ?_ | refine blk_alloc ?_ _)); refine blk_far ?_ NB103_107.out _; (with_reducible repeat (first | refine blk_drewN ?_ _ | refine blk_drew ?_ | refine blk_alloc ?_ _)); first | exact BK103.out | (simp only [*]; exact BK103.out)⟩,⟨by (with_reducible repeat (first | refine blk_drewN ?_ _ | refine blk_drew ?_ | refine blk_alloc ?_ _)); refine blk_put (cs := #[.int .i64 ((rd_T60 l0_1 x20_2).f0),.int .i64 ((rd_T60 l0_1 x20_2).f1),.int .i64 ((rd_T60 l0_1 x20_2).f2),.bool false]) ?_ 3 _ rfl; (with_reducible repeat (first | refine blk_drewN ?_ _ | refine blk_drew ?_ | refine blk_alloc ?_ _)); refine blk_put (cs := #[.int .i64 ((rd_T60 l0_1 x20_2).f0),.int .i64 ((rd_T60 l0_1 x20_2).f1),.int .i64 0,.bool false]) ?_ 2 _ rfl; (with_reducible repeat (first | refine blk_drewN ?_ _ | refine blk_drew ?_ | refine blk_alloc ?_ _)); refine blk_put (cs := #[.int .i64 ((rd_T60 l0_1 x20_2).f0),.int .i64 0,.int .i64 0,.bool false]) ?_ 1 _ rfl; (with_reducible repeat (first | refine blk_drewN ?_ _ | refine blk_drew ?_ | refine blk_alloc ?_ _)); refine blk_put (cs := #[.int .i64 0,.int .i64 0,.int .i64 0,.bool false]) ?_ 0 _ rfl; (with_reducible repeat (first | refine blk_drewN ?_ _ | refine blk_drew ?_ | refine blk_alloc ?_ _)); first | exact BK107.out | (simp only [*]; exact BK107.out)⟩,⟨by repeat (first | (with_reducible first | exact HB.out | apply below_alloc | apply pw_below_drewN | apply below_drew1 | refine below_set ?_ GE103.out | refine below_set ?_ GE107.out) | exact HB.out)⟩⟩
              ·replace c25 := Bool.eq_false_iff.mpr c25
               subst c25
               have H1 : (impl_LockOk.j2 k2 x3_2 x20_2 l0_1 (l0_1.length : Int) x20_2 true a0_0 l0_1 l0_2 ((rd_T60 l0_1 x20_2).f0) ((rd_T60 l0_1 x20_2).f1) ((rd_T60 l0_1 x20_2).f2) ((rd_T60 l0_1 x20_2).f3)) = some r := by rw [if_neg (show ¬ (false = true) by decide)] at H; exact H
               clear H
               have H := H1
               clear H1
               have H' := Aside0.mk H
               clear H
               have hnb42 := NB107_103.out
               have hnc42 := NB103_107.out
               have hcz43_0 : w15.cell? ⟨gb107,0,none⟩ = some (.int .i64 0) := (blk_cell BK107.out 0).trans rfl
               have hcz43_1 : w15.cell? ⟨gb107,1,none⟩ = some (.int .i64 0) := (blk_cell BK107.out 1).trans rfl
               have hcz43_2 : w15.cell? ⟨gb107,2,none⟩ = some (.int .i64 0) := (blk_cell BK107.out 2).trans rfl
               have hcz43_3 : w15.cell? ⟨gb107,3,none⟩ = some (.bool false) := (blk_cell BK107.out 3).trans rfl
               have hfz43_0 := blk_frozen BK107.out 0
               have hfz43_1 := blk_frozen BK107.out 1
               have hfz43_2 := blk_frozen BK107.out 2
               have hfz43_3 := blk_frozen BK107.out 3
               go_wp2_with (first | (go_at_call 30; (with_reducible refine (impl_in.calls ((rd_T60 l0_1 x20_2).f0) 0 6 true _ A18.out).mono ?_); rintro e w' ⟨rfl,⟨nd,rfl⟩⟩; (try first | exact ⟨rfl,_,World.drewN_drewN _ _ _⟩ | exact ⟨rfl,_,Eq.trans (World.drewN_drewN _ _ _) (congrArg (World.drewN _) (Nat.add_assoc _ _ _))⟩)) | (go_at_call 30; (with_reducible refine (impl_in.calls ((rd_T60 l0_1 x20_2).f1) 0 2 true _ A20.out).mono ?_); rintro e w' ⟨rfl,⟨nd,rfl⟩⟩; (try first | exact ⟨rfl,_,World.drewN_drewN _ _ _⟩ | exact ⟨rfl,_,Eq.trans (World.drewN_drewN _ _ _) (congrArg (World.drewN _) (Nat.add_assoc _ _ _))⟩)) | (go_at_call 30; (with_reducible refine (impl_in.calls ((rd_T60 l0_1 x20_2).f2) 0 3 false _ A24.out).mono ?_); rintro e w' ⟨rfl,⟨nd,rfl⟩⟩; (try first | exact ⟨rfl,_,World.drewN_drewN _ _ _⟩ | exact ⟨rfl,_,Eq.trans (World.drewN_drewN _ _ _) (congrArg (World.drewN _) (Nat.add_assoc _ _ _))⟩)))
               repeat (go_quiet (first | (go_at_call 30; (with_reducible refine (impl_in.calls ((rd_T60 l0_1 x20_2).f0) 0 6 true _ A18.out).mono ?_); rintro e w' ⟨rfl,⟨nd,rfl⟩⟩; (try first | exact ⟨rfl,_,World.drewN_drewN _ _ _⟩ | exact ⟨rfl,_,Eq.trans (World.drewN_drewN _ _ _) (congrArg (World.drewN _) (Nat.add_assoc _ _ _))⟩)) | (go_at_call 30; (with_reducible refine (impl_in.calls ((rd_T60 l0_1 x20_2).f1) 0 2 true _ A20.out).mono ?_); rintro e w' ⟨rfl,⟨nd,rfl⟩⟩; (try first | exact ⟨rfl,_,World.drewN_drewN _ _ _⟩ | exact ⟨rfl,_,Eq.trans (World.drewN_drewN _ _ _) (congrArg (World.drewN _) (Nat.add_assoc _ _ _))⟩)) | (go_at_call 30; (with_reducible refine (impl_in.calls ((rd_T60 l0_1 x20_2).f2) 0 3 false _ A24.out).mono ?_); rintro e w' ⟨rfl,⟨nd,rfl⟩⟩; (try first | exact ⟨rfl,_,World.drewN_drewN _ _ _⟩ | exact ⟨rfl,_,Eq.trans (World.drewN_drewN _ _ _) (congrArg (World.drewN _) (Nat.add_assoc _ _ _))⟩))); try go_wp2_with (first | (go_at_call 30; (with_reducible refine (impl_in.calls ((rd_T60 l0_1 x20_2).f0) 0 6 true _ A18.out).mono ?_); rintro e w' ⟨rfl,⟨nd,rfl⟩⟩; (try first | exact ⟨rfl,_,World.drewN_drewN _ _ _⟩ | exact ⟨rfl,_,Eq.trans (World.drewN_drewN _ _ _) (congrArg (World.drewN _) (Nat.add_assoc _ _ _))⟩)) | (go_at_call 30; (with_reducible refine (impl_in.calls ((rd_T60 l0_1 x20_2).f1) 0 2 true _ A20.out).mono ?_); rintro e w' ⟨rfl,⟨nd,rfl⟩⟩; (try first | exact ⟨rfl,_,World.drewN_drewN _ _ _⟩ | exact ⟨rfl,_,Eq.trans (World.drewN_drewN _ _ _) (congrArg (World.drewN _) (Nat.add_assoc _ _ _))⟩)) | (go_at_call 30; (with_reducible refine (impl_in.calls ((rd_T60 l0_1 x20_2).f2) 0 3 false _ A24.out).mono ?_); rintro e w' ⟨rfl,⟨nd,rfl⟩⟩; (try first | exact ⟨rfl,_,World.drewN_drewN _ _ _⟩ | exact ⟨rfl,_,Eq.trans (World.drewN_drewN _ _ _) (congrArg (World.drewN _) (Nat.add_assoc _ _ _))⟩))))
               go_meet
               case rel => exact ⟨_,(true),(by first | rfl | (simp; done) | (simp [*]; done)),H',⟨by have := HJ1.out; have := HK2.out; first | omega | exact Nat.le_refl _⟩,⟨by (with_reducible repeat (first | refine blk_drewN ?_ _ | refine blk_drew ?_ | refine blk_alloc ?_ _)); refine blk_far ?_ NB103_107.out _; (with_reducible repeat (first | refine blk_drewN ?_ _ | refine blk_drew ?_ | refine blk_alloc ?_ _)); refine blk_far ?_ NB103_107.out _; (with_reducible repeat (first | refine blk_drewN ?_ _ | refine blk_drew ?_ | refine blk_alloc ?_ _)); refine blk_far ?_ NB103_107.out _; (with_reducible repeat (first | refine blk_drewN ?_ _ | refine blk_drew ?_ | refine blk_alloc ?_ _)); refine blk_far ?_ NB103_107.out _; (with_reducible repeat (first | refine blk_drewN ?_ _ | refine blk_drew ?_ | refine blk_alloc ?_ _)); first | exact BK103.out | (simp only [*]; exact BK103.out)⟩,⟨by (with_reducible repeat (first | refine blk_drewN ?_ _ | refine blk_drew ?_ | refine blk_alloc ?_ _)); refine blk_put (cs := #[.int .i64 ((rd_T60 l0_1 x20_2).f0),.int .i64 ((rd_T60 l0_1 x20_2).f1),.int .i64 ((rd_T60 l0_1 x20_2).f2),.bool false]) ?_ 3 _ rfl; (with_reducible repeat (first | refine blk_drewN ?_ _ | refine blk_drew ?_ | refine blk_alloc ?_ _)); refine blk_put (cs := #[.int .i64 ((rd_T60 l0_1 x20_2).f0),.int .i64 ((rd_T60 l0_1 x20_2).f1),.int .i64 0,.bool false]) ?_ 2 _ rfl; (with_reducible repeat (first | refine blk_drewN ?_ _ | refine blk_drew ?_ | refine blk_alloc ?_ _)); refine blk_put (cs := #[.int .i64 ((rd_T60 l0_1 x20_2).f0),.int .i64 0,.int .i64 0,.bool false]) ?_ 1 _ rfl; (with_reducible repeat (first | refine blk_drewN ?_ _ | refine blk_drew ?_ | refine blk_alloc ?_ _)); refine blk_put (cs := #[.int .i64 0,.int .i64 0,.int .i64 0,.bool false]) ?_ 0 _ rfl; (with_reducible repeat (first | refine blk_drewN ?_ _ | refine blk_drew ?_ | refine blk_alloc ?_ _)); first | exact BK107.out | (simp only [*]; exact BK107.out)⟩,⟨by repeat (first | (with_reducible first | exact HB.out | apply below_alloc | apply pw_below_drewN | apply below_drew1 | refine below_set ?_ GE103.out | refine below_set ?_ GE107.out) | exact HB.out)⟩⟩
             ·rw [if_neg c23] at H
              have c23b0 : (((rd_T60 l0_1 x20_2).f0) == 1) = false := beq_eq_false_iff_ne.mpr c23
              have c23b1 : (((rd_T60 l0_1 x20_2).f0) != 1) = true := bne_iff_ne.mpr c23
              have H' := Aside0.mk H
              clear H
              have hnb44 := NB107_103.out
              have hnc44 := NB103_107.out
              have hcz45_0 : w15.cell? ⟨gb107,0,none⟩ = some (.int .i64 0) := (blk_cell BK107.out 0).trans rfl
              have hcz45_1 : w15.cell? ⟨gb107,1,none⟩ = some (.int .i64 0) := (blk_cell BK107.out 1).trans rfl
              have hcz45_2 : w15.cell? ⟨gb107,2,none⟩ = some (.int .i64 0) := (blk_cell BK107.out 2).trans rfl
              have hcz45_3 : w15.cell? ⟨gb107,3,none⟩ = some (.bool false) := (blk_cell BK107.out 3).trans rfl
              have hfz45_0 := blk_frozen BK107.out 0
              have hfz45_1 := blk_frozen BK107.out 1
              have hfz45_2 := blk_frozen BK107.out 2
              have hfz45_3 := blk_frozen BK107.out 3
              go_wp2_with (first | (go_at_call 30; (with_reducible refine (impl_in.calls ((rd_T60 l0_1 x20_2).f0) 0 6 true _ A18.out).mono ?_); rintro e w' ⟨rfl,⟨nd,rfl⟩⟩; (try first | exact ⟨rfl,_,World.drewN_drewN _ _ _⟩ | exact ⟨rfl,_,Eq.trans (World.drewN_drewN _ _ _) (congrArg (World.drewN _) (Nat.add_assoc _ _ _))⟩)) | (go_at_call 30; (with_reducible refine (impl_in.calls ((rd_T60 l0_1 x20_2).f1) 0 2 true _ A20.out).mono ?_); rintro e w' ⟨rfl,⟨nd,rfl⟩⟩; (try first | exact ⟨rfl,_,World.drewN_drewN _ _ _⟩ | exact ⟨rfl,_,Eq.trans (World.drewN_drewN _ _ _) (congrArg (World.drewN _) (Nat.add_assoc _ _ _))⟩)))
              repeat (go_quiet (first | (go_at_call 30; (with_reducible refine (impl_in.calls ((rd_T60 l0_1 x20_2).f0) 0 6 true _ A18.out).mono ?_); rintro e w' ⟨rfl,⟨nd,rfl⟩⟩; (try first | exact ⟨rfl,_,World.drewN_drewN _ _ _⟩ | exact ⟨rfl,_,Eq.trans (World.drewN_drewN _ _ _) (congrArg (World.drewN _) (Nat.add_assoc _ _ _))⟩)) | (go_at_call 30; (with_reducible refine (impl_in.calls ((rd_T60 l0_1 x20_2).f1) 0 2 true _ A20.out).mono ?_); rintro e w' ⟨rfl,⟨nd,rfl⟩⟩; (try first | exact ⟨rfl,_,World.drewN_drewN _ _ _⟩ | exact ⟨rfl,_,Eq.trans (World.drewN_drewN _ _ _) (congrArg (World.drewN _) (Nat.add_assoc _ _ _))⟩))); try go_wp2_with (first | (go_at_call 30; (with_reducible refine (impl_in.calls ((rd_T60 l0_1 x20_2).f0) 0 6 true _ A18.out).mono ?_); rintro e w' ⟨rfl,⟨nd,rfl⟩⟩; (try first | exact ⟨rfl,_,World.drewN_drewN _ _ _⟩ | exact ⟨rfl,_,Eq.trans (World.drewN_drewN _ _ _) (congrArg (World.drewN _) (Nat.add_assoc _ _ _))⟩)) | (go_at_call 30; (with_reducible refine (impl_in.calls ((rd_T60 l0_1 x20_2).f1) 0 2 true _ A20.out).mono ?_); rintro e w' ⟨rfl,⟨nd,rfl⟩⟩; (try first | exact ⟨rfl,_,World.drewN_drewN _ _ _⟩ | exact ⟨rfl,_,Eq.trans (World.drewN_drewN _ _ _) (congrArg (World.drewN _) (Nat.add_assoc _ _ _))⟩))))
              go_meet
              case rel => exact ⟨_,(true),(by first | rfl | (simp; done) | (simp [*]; done)),H',⟨by have := HJ1.out; have := HK2.out; first | omega | exact Nat.le_refl _⟩,⟨by (with_reducible repeat (first | refine blk_drewN ?_ _ | refine blk_drew ?_ | refine blk_alloc ?_ _)); refine blk_far ?_ NB103_107.out _; (with_reducible repeat (first | refine blk_drewN ?_ _ | refine blk_drew ?_ | refine blk_alloc ?_ _)); refine blk_far ?_ NB103_107.out _; (with_reducible repeat (first | refine blk_drewN ?_ _ | refine blk_drew ?_ | refine blk_alloc ?_ _)); refine blk_far ?_ NB103_107.out _; (with_reducible repeat (first | refine blk_drewN ?_ _ | refine blk_drew ?_ | refine blk_alloc ?_ _)); refine blk_far ?_ NB103_107.out _; (with_reducible repeat (first | refine blk_drewN ?_ _ | refine blk_drew ?_ | refine blk_alloc ?_ _)); first | exact BK103.out | (simp only [*]; exact BK103.out)⟩,⟨by (with_reducible repeat (first | refine blk_drewN ?_ _ | refine blk_drew ?_ | refine blk_alloc ?_ _)); refine blk_put (cs := #[.int .i64 ((rd_T60 l0_1 x20_2).f0),.int .i64 ((rd_T60 l0_1 x20_2).f1),.int .i64 ((rd_T60 l0_1 x20_2).f2),.bool false]) ?_ 3 _ rfl; (with_reducible repeat (first | refine blk_drewN ?_ _ | refine blk_drew ?_ | refine blk_alloc ?_ _)); refine blk_put (cs := #[.int .i64 ((rd_T60 l0_1 x20_2).f0),.int .i64 ((rd_T60 l0_1 x20_2).f1),.int .i64 0,.bool false]) ?_ 2 _ rfl; (with_reducible repeat (first | refine blk_drewN ?_ _ | refine blk_drew ?_ | refine blk_alloc ?_ _)); refine blk_put (cs := #[.int .i64 ((rd_T60 l0_1 x20_2).f0),.int .i64 0,.int .i64 0,.bool false]) ?_ 1 _ rfl; (with_reducible repeat (first | refine blk_drewN ?_ _ | refine blk_drew ?_ | refine blk_alloc ?_ _)); refine blk_put (cs := #[.int .i64 0,.int .i64 0,.int .i64 0,.bool false]) ?_ 0 _ rfl; (with_reducible repeat (first | refine blk_drewN ?_ _ | refine blk_drew ?_ | refine blk_alloc ?_ _)); first | exact BK107.out | (simp only [*]; exact BK107.out)⟩,⟨by repeat (first | (with_reducible first | exact HB.out | apply below_alloc | apply pw_below_drewN | apply below_drew1 | refine below_set ?_ GE103.out | refine below_set ?_ GE107.out) | exact HB.out)⟩⟩
            ·rw [if_neg c22] at H
             have c22b0 : decide (0 < ((rd_T60 l0_1 x20_2).f1)) = false := decide_eq_false c22
             clear c22
             (first | rw [c22b0] | (simp only [i64_w,i32_w]; rw [c22b0]) | skip)
             replace H := Option.bind_eq_some_iff.mp H
             obtain ⟨t111,A460,H⟩ := H
             replace H : (if t111 = true then (if ((rd_T60 l0_1 x20_2).f0) > 0 then (if ((rd_T60 l0_1 x20_2).f2) = 0 then (impl_LockOk.j2 k2 x3_2 x20_2 l0_1 (l0_1.length : Int) x20_2 true a0_0 l0_1 l0_2 ((rd_T60 l0_1 x20_2).f0) ((rd_T60 l0_1 x20_2).f1) ((rd_T60 l0_1 x20_2).f2) ((rd_T60 l0_1 x20_2).f3)) else (if (rd_T60 l0_1 x20_2).f3 = true then (impl_LockOk.j2 k2 x3_2 x20_2 l0_1 (l0_1.length : Int) x20_2 (((rd_T60 l0_1 x20_2).f0) != 3) a0_0 l0_1 l0_2 ((rd_T60 l0_1 x20_2).f0) ((rd_T60 l0_1 x20_2).f1) ((rd_T60 l0_1 x20_2).f2) ((rd_T60 l0_1 x20_2).f3)) else (impl_LockOk.j2 k2 x3_2 x20_2 l0_1 (l0_1.length : Int) x20_2 false a0_0 l0_1 l0_2 ((rd_T60 l0_1 x20_2).f0) ((rd_T60 l0_1 x20_2).f1) ((rd_T60 l0_1 x20_2).f2) ((rd_T60 l0_1 x20_2).f3)))) else (if (rd_T60 l0_1 x20_2).f3 = true then (impl_LockOk.j2 k2 x3_2 x20_2 l0_1 (l0_1.length : Int) x20_2 (((rd_T60 l0_1 x20_2).f0) != 3) a0_0 l0_1 l0_2 ((rd_T60 l0_1 x20_2).f0) ((rd_T60 l0_1 x20_2).f1) ((rd_T60 l0_1 x20_2).f2) ((rd_T60 l0_1 x20_2).f3)) else (impl_LockOk.j2 k2 x3_2 x20_2 l0_1 (l0_1.length : Int) x20_2 false a0_0 l0_1 l0_2 ((rd_T60 l0_1 x20_2).f0) ((rd_T60 l0_1 x20_2).f1) ((rd_T60 l0_1 x20_2).f2) ((rd_T60 l0_1 x20_2).f3)))) else (impl_LockOk.j2 k2 x3_2 x20_2 l0_1 (l0_1.length : Int) x20_2 true a0_0 l0_1 l0_2 ((rd_T60 l0_1 x20_2).f0) ((rd_T60 l0_1 x20_2).f1) ((rd_T60 l0_1 x20_2).f2) ((rd_T60 l0_1 x20_2).f3))) = some r := H
             have A46 := Aside0.mk A460
             clear A460
             by_cases c47 : t111 = true
             ·subst c47
              have H1 : (if ((rd_T60 l0_1 x20_2).f0) > 0 then (if ((rd_T60 l0_1 x20_2).f2) = 0 then (impl_LockOk.j2 k2 x3_2 x20_2 l0_1 (l0_1.length : Int) x20_2 true a0_0 l0_1 l0_2 ((rd_T60 l0_1 x20_2).f0) ((rd_T60 l0_1 x20_2).f1) ((rd_T60 l0_1 x20_2).f2) ((rd_T60 l0_1 x20_2).f3)) else (if (rd_T60 l0_1 x20_2).f3 = true then (impl_LockOk.j2 k2 x3_2 x20_2 l0_1 (l0_1.length : Int) x20_2 (((rd_T60 l0_1 x20_2).f0) != 3) a0_0 l0_1 l0_2 ((rd_T60 l0_1 x20_2).f0) ((rd_T60 l0_1 x20_2).f1) ((rd_T60 l0_1 x20_2).f2) ((rd_T60 l0_1 x20_2).f3)) else (impl_LockOk.j2 k2 x3_2 x20_2 l0_1 (l0_1.length : Int) x20_2 false a0_0 l0_1 l0_2 ((rd_T60 l0_1 x20_2).f0) ((rd_T60 l0_1 x20_2).f1) ((rd_T60 l0_1 x20_2).f2) ((rd_T60 l0_1 x20_2).f3)))) else (if (rd_T60 l0_1 x20_2).f3 = true then (impl_LockOk.j2 k2 x3_2 x20_2 l0_1 (l0_1.length : Int) x20_2 (((rd_T60 l0_1 x20_2).f0) != 3) a0_0 l0_1 l0_2 ((rd_T60 l0_1 x20_2).f0) ((rd_T60 l0_1 x20_2).f1) ((rd_T60 l0_1 x20_2).f2) ((rd_T60 l0_1 x20_2).f3)) else (impl_LockOk.j2 k2 x3_2 x20_2 l0_1 (l0_1.length : Int) x20_2 false a0_0 l0_1 l0_2 ((rd_T60 l0_1 x20_2).f0) ((rd_T60 l0_1 x20_2).f1) ((rd_T60 l0_1 x20_2).f2) ((rd_T60 l0_1 x20_2).f3)))) = some r := by rw [if_pos rfl] at H; exact H
              clear H
              have H := H1
              clear H1
              by_cases c48 : ((rd_T60 l0_1 x20_2).f0) > 0
              ·rw [if_pos c48] at H
               have c48b0 : decide (0 < ((rd_T60 l0_1 x20_2).f0)) = true := decide_eq_true c48
               clear c48
               by_cases c49 : ((rd_T60 l0_1 x20_2).f2) = 0
               ·rw [if_pos c49] at H
                have c49b0 : (((rd_T60 l0_1 x20_2).f2) == 0) = true := beq_iff_eq.mpr c49
                have c49b1 : (((rd_T60 l0_1 x20_2).f2) != 0) = false := bne_eq_false_iff_eq.mpr c49
                clear c49
                have H' := Aside0.mk H
                clear H
                have hnb50 := NB107_103.out
                have hnc50 := NB103_107.out
                have hcz51_0 : w15.cell? ⟨gb107,0,none⟩ = some (.int .i64 0) := (blk_cell BK107.out 0).trans rfl
                have hcz51_1 : w15.cell? ⟨gb107,1,none⟩ = some (.int .i64 0) := (blk_cell BK107.out 1).trans rfl
                have hcz51_2 : w15.cell? ⟨gb107,2,none⟩ = some (.int .i64 0) := (blk_cell BK107.out 2).trans rfl
                have hcz51_3 : w15.cell? ⟨gb107,3,none⟩ = some (.bool false) := (blk_cell BK107.out 3).trans rfl
                have hfz51_0 := blk_frozen BK107.out 0
                have hfz51_1 := blk_frozen BK107.out 1
                have hfz51_2 := blk_frozen BK107.out 2
                have hfz51_3 := blk_frozen BK107.out 3
                go_wp2_with (first | (go_at_call 30; (with_reducible refine (impl_in.calls ((rd_T60 l0_1 x20_2).f0) 0 6 true _ A18.out).mono ?_); rintro e w' ⟨rfl,⟨nd,rfl⟩⟩; (try first | exact ⟨rfl,_,World.drewN_drewN _ _ _⟩ | exact ⟨rfl,_,Eq.trans (World.drewN_drewN _ _ _) (congrArg (World.drewN _) (Nat.add_assoc _ _ _))⟩)) | (go_at_call 30; (with_reducible refine (impl_in.calls ((rd_T60 l0_1 x20_2).f1) 0 2 true _ A20.out).mono ?_); rintro e w' ⟨rfl,⟨nd,rfl⟩⟩; (try first | exact ⟨rfl,_,World.drewN_drewN _ _ _⟩ | exact ⟨rfl,_,Eq.trans (World.drewN_drewN _ _ _) (congrArg (World.drewN _) (Nat.add_assoc _ _ _))⟩)) | (go_at_call 30; (with_reducible refine (impl_in.calls ((rd_T60 l0_1 x20_2).f2) 0 3 true _ A46.out).mono ?_); rintro e w' ⟨rfl,⟨nd,rfl⟩⟩; (try first | exact ⟨rfl,_,World.drewN_drewN _ _ _⟩ | exact ⟨rfl,_,Eq.trans (World.drewN_drewN _ _ _) (congrArg (World.drewN _) (Nat.add_assoc _ _ _))⟩)))
                repeat (go_quiet (first | (go_at_call 30; (with_reducible refine (impl_in.calls ((rd_T60 l0_1 x20_2).f0) 0 6 true _ A18.out).mono ?_); rintro e w' ⟨rfl,⟨nd,rfl⟩⟩; (try first | exact ⟨rfl,_,World.drewN_drewN _ _ _⟩ | exact ⟨rfl,_,Eq.trans (World.drewN_drewN _ _ _) (congrArg (World.drewN _) (Nat.add_assoc _ _ _))⟩)) | (go_at_call 30; (with_reducible refine (impl_in.calls ((rd_T60 l0_1 x20_2).f1) 0 2 true _ A20.out).mono ?_); rintro e w' ⟨rfl,⟨nd,rfl⟩⟩; (try first | exact ⟨rfl,_,World.drewN_drewN _ _ _⟩ | exact ⟨rfl,_,Eq.trans (World.drewN_drewN _ _ _) (congrArg (World.drewN _) (Nat.add_assoc _ _ _))⟩)) | (go_at_call 30; (with_reducible refine (impl_in.calls ((rd_T60 l0_1 x20_2).f2) 0 3 true _ A46.out).mono ?_); rintro e w' ⟨rfl,⟨nd,rfl⟩⟩; (try first | exact ⟨rfl,_,World.drewN_drewN _ _ _⟩ | exact ⟨rfl,_,Eq.trans (World.drewN_drewN _ _ _) (congrArg (World.drewN _) (Nat.add_assoc _ _ _))⟩))); try go_wp2_with (first | (go_at_call 30; (with_reducible refine (impl_in.calls ((rd_T60 l0_1 x20_2).f0) 0 6 true _ A18.out).mono ?_); rintro e w' ⟨rfl,⟨nd,rfl⟩⟩; (try first | exact ⟨rfl,_,World.drewN_drewN _ _ _⟩ | exact ⟨rfl,_,Eq.trans (World.drewN_drewN _ _ _) (congrArg (World.drewN _) (Nat.add_assoc _ _ _))⟩)) | (go_at_call 30; (with_reducible refine (impl_in.calls ((rd_T60 l0_1 x20_2).f1) 0 2 true _ A20.out).mono ?_); rintro e w' ⟨rfl,⟨nd,rfl⟩⟩; (try first | exact ⟨rfl,_,World.drewN_drewN _ _ _⟩ | exact ⟨rfl,_,Eq.trans (World.drewN_drewN _ _ _) (congrArg (World.drewN _) (Nat.add_assoc _ _ _))⟩)) | (go_at_call 30; (with_reducible refine (impl_in.calls ((rd_T60 l0_1 x20_2).f2) 0 3 true _ A46.out).mono ?_); rintro e w' ⟨rfl,⟨nd,rfl⟩⟩; (try first | exact ⟨rfl,_,World.drewN_drewN _ _ _⟩ | exact ⟨rfl,_,Eq.trans (World.drewN_drewN _ _ _) (congrArg (World.drewN _) (Nat.add_assoc _ _ _))⟩))))
                go_meet
                case rel => exact ⟨_,(true),(by first | rfl | (simp; done) | (simp [*]; done)),H',⟨by have := HJ1.out; have := HK2.out; first | omega | exact Nat.le_refl _⟩,⟨by (with_reducible repeat (first | refine blk_drewN ?_ _ | refine blk_drew ?_ | refine blk_alloc ?_ _)); refine blk_far ?_ NB103_107.out _; (with_reducible repeat (first | refine blk_drewN ?_ _ | refine blk_drew ?_ | refine blk_alloc ?_ _)); refine blk_far ?_ NB103_107.out _; (with_reducible repeat (first | refine blk_drewN ?_ _ | refine blk_drew ?_ | refine blk_alloc ?_ _)); refine blk_far ?_ NB103_107.out _; (with_reducible repeat (first | refine blk_drewN ?_ _ | refine blk_drew ?_ | refine blk_alloc ?_ _)); refine blk_far ?_ NB103_107.out _; (with_reducible repeat (first | refine blk_drewN ?_ _ | refine blk_drew ?_ | refine blk_alloc ?_ _)); first | exact BK103.out | (simp only [*]; exact BK103.out)⟩,⟨by (with_reducible repeat (first | refine blk_drewN ?_ _ | refine blk_drew ?_ | refine blk_alloc ?_ _)); refine blk_put (cs := #[.int .i64 ((rd_T60 l0_1 x20_2).f0),.int .i64 ((rd_T60 l0_1 x20_2).f1),.int .i64 ((rd_T60 l0_1 x20_2).f2),.bool false]) ?_ 3 _ rfl; (with_reducible repeat (first | refine blk_drewN ?_ _ | refine blk_drew ?_ | refine blk_alloc ?_ _)); refine blk_put (cs := #[.int .i64 ((rd_T60 l0_1 x20_2).f0),.int .i64 ((rd_T60 l0_1 x20_2).f1),.int .i64 0,.bool false]) ?_ 2 _ rfl; (with_reducible repeat (first | refine blk_drewN ?_ _ | refine blk_drew ?_ | refine blk_alloc ?_ _)); refine blk_put (cs := #[.int .i64 ((rd_T60 l0_1 x20_2).f0),.int .i64 0,.int .i64 0,.bool false]) ?_ 1 _ rfl; (with_reducible repeat (first | refine blk_drewN ?_ _ | refine blk_drew ?_ | refine blk_alloc ?_ _)); refine blk_put (cs := #[.int .i64 0,.int .i64 0,.int .i64 0,.bool false]) ?_ 0 _ rfl; (with_reducible repeat (first | refine blk_drewN ?_ _ | refine blk_drew ?_ | refine blk_alloc ?_ _)); first | exact BK107.out | (simp only [*]; exact BK107.out)⟩,⟨by repeat (first | (with_reducible first | exact HB.out | apply below_alloc | apply pw_below_drewN | apply below_drew1 | refine below_set ?_ GE103.out | refine below_set ?_ GE107.out) | exact HB.out)⟩⟩
               ·rw [if_neg c49] at H
                have c49b0 : (((rd_T60 l0_1 x20_2).f2) == 0) = false := beq_eq_false_iff_ne.mpr c49
                have c49b1 : (((rd_T60 l0_1 x20_2).f2) != 0) = true := bne_iff_ne.mpr c49
                obtain ⟨bq52,hbq52⟩ : ∃ b_ : Bool,b_ = ((rd_T60 l0_1 x20_2).f3) := ⟨_,rfl⟩
                replace H : (if bq52 = true then (impl_LockOk.j2 k2 x3_2 x20_2 l0_1 (l0_1.length : Int) x20_2 (((rd_T60 l0_1 x20_2).f0) != 3) a0_0 l0_1 l0_2 ((rd_T60 l0_1 x20_2).f0) ((rd_T60 l0_1 x20_2).f1) ((rd_T60 l0_1 x20_2).f2) bq52) else (impl_LockOk.j2 k2 x3_2 x20_2 l0_1 (l0_1.length : Int) x20_2 false a0_0 l0_1 l0_2 ((rd_T60 l0_1 x20_2).f0) ((rd_T60 l0_1 x20_2).f1) ((rd_T60 l0_1 x20_2).f2) bq52)) = some r := by rw [← hbq52] at H; exact H
                have Nbq52 := Aside0.mk hbq52
                clear hbq52
                by_cases c53 : bq52 = true
                ·subst c53
                 (try rw [← Nbq52.out])
                 have H1 : (impl_LockOk.j2 k2 x3_2 x20_2 l0_1 (l0_1.length : Int) x20_2 (((rd_T60 l0_1 x20_2).f0) != 3) a0_0 l0_1 l0_2 ((rd_T60 l0_1 x20_2).f0) ((rd_T60 l0_1 x20_2).f1) ((rd_T60 l0_1 x20_2).f2) true) = some r := by rw [if_pos rfl] at H; exact H
                 clear H
                 have H := H1
                 clear H1
                 have H' := Aside0.mk H
                 clear H
                 have hnb54 := NB107_103.out
                 have hnc54 := NB103_107.out
                 have hcz55_0 : w15.cell? ⟨gb107,0,none⟩ = some (.int .i64 0) := (blk_cell BK107.out 0).trans rfl
                 have hcz55_1 : w15.cell? ⟨gb107,1,none⟩ = some (.int .i64 0) := (blk_cell BK107.out 1).trans rfl
                 have hcz55_2 : w15.cell? ⟨gb107,2,none⟩ = some (.int .i64 0) := (blk_cell BK107.out 2).trans rfl
                 have hcz55_3 : w15.cell? ⟨gb107,3,none⟩ = some (.bool false) := (blk_cell BK107.out 3).trans rfl
                 have hfz55_0 := blk_frozen BK107.out 0
                 have hfz55_1 := blk_frozen BK107.out 1
                 have hfz55_2 := blk_frozen BK107.out 2
                 have hfz55_3 := blk_frozen BK107.out 3
                 go_wp2_with (first | (go_at_call 30; (with_reducible refine (impl_in.calls ((rd_T60 l0_1 x20_2).f0) 0 6 true _ A18.out).mono ?_); rintro e w' ⟨rfl,⟨nd,rfl⟩⟩; (try first | exact ⟨rfl,_,World.drewN_drewN _ _ _⟩ | exact ⟨rfl,_,Eq.trans (World.drewN_drewN _ _ _) (congrArg (World.drewN _) (Nat.add_assoc _ _ _))⟩)) | (go_at_call 30; (with_reducible refine (impl_in.calls ((rd_T60 l0_1 x20_2).f1) 0 2 true _ A20.out).mono ?_); rintro e w' ⟨rfl,⟨nd,rfl⟩⟩; (try first | exact ⟨rfl,_,World.drewN_drewN _ _ _⟩ | exact ⟨rfl,_,Eq.trans (World.drewN_drewN _ _ _) (congrArg (World.drewN _) (Nat.add_assoc _ _ _))⟩)) | (go_at_call 30; (with_reducible refine (impl_in.calls ((rd_T60 l0_1 x20_2).f2) 0 3 true _ A46.out).mono ?_); rintro e w' ⟨rfl,⟨nd,rfl⟩⟩; (try first | exact ⟨rfl,_,World.drewN_drewN _ _ _⟩ | exact ⟨rfl,_,Eq.trans (World.drewN_drewN _ _ _) (congrArg (World.drewN _) (Nat.add_assoc _ _ _))⟩)))
                 repeat (go_quiet (first | (go_at_call 30; (with_reducible refine (impl_in.calls ((rd_T60 l0_1 x20_2).f0) 0 6 true _ A18.out).mono ?_); rintro e w' ⟨rfl,⟨nd,rfl⟩⟩; (try first | exact ⟨rfl,_,World.drewN_drewN _ _ _⟩ | exact ⟨rfl,_,Eq.trans (World.drewN_drewN _ _ _) (congrArg (World.drewN _) (Nat.add_assoc _ _ _))⟩)) | (go_at_call 30; (with_reducible refine (impl_in.calls ((rd_T60 l0_1 x20_2).f1) 0 2 true _ A20.out).mono ?_); rintro e w' ⟨rfl,⟨nd,rfl⟩⟩; (try first | exact ⟨rfl,_,World.drewN_drewN _ _ _⟩ | exact ⟨rfl,_,Eq.trans (World.drewN_drewN _ _ _) (congrArg (World.drewN _) (Nat.add_assoc _ _ _))⟩)) | (go_at_call 30; (with_reducible refine (impl_in.calls ((rd_T60 l0_1 x20_2).f2) 0 3 true _ A46.out).mono ?_); rintro e w' ⟨rfl,⟨nd,rfl⟩⟩; (try first | exact ⟨rfl,_,World.drewN_drewN _ _ _⟩ | exact ⟨rfl,_,Eq.trans (World.drewN_drewN _ _ _) (congrArg (World.drewN _) (Nat.add_assoc _ _ _))⟩))); try go_wp2_with (first | (go_at_call 30; (with_reducible refine (impl_in.calls ((rd_T60 l0_1 x20_2).f0) 0 6 true _ A18.out).mono ?_); rintro e w' ⟨rfl,⟨nd,rfl⟩⟩; (try first | exact ⟨rfl,_,World.drewN_drewN _ _ _⟩ | exact ⟨rfl,_,Eq.trans (World.drewN_drewN _ _ _) (congrArg (World.drewN _) (Nat.add_assoc _ _ _))⟩)) | (go_at_call 30; (with_reducible refine (impl_in.calls ((rd_T60 l0_1 x20_2).f1) 0 2 true _ A20.out).mono ?_); rintro e w' ⟨rfl,⟨nd,rfl⟩⟩; (try first | exact ⟨rfl,_,World.drewN_drewN _ _ _⟩ | exact ⟨rfl,_,Eq.trans (World.drewN_drewN _ _ _) (congrArg (World.drewN _) (Nat.add_assoc _ _ _))⟩)) | (go_at_call 30; (with_reducible refine (impl_in.calls ((rd_T60 l0_1 x20_2).f2) 0 3 true _ A46.out).mono ?_); rintro e w' ⟨rfl,⟨nd,rfl⟩⟩; (try first | exact ⟨rfl,_,World.drewN_drewN _ _ _⟩ | exact ⟨rfl,_,Eq.trans (World.drewN_drewN _ _ _) (congrArg (World.drewN _) (Nat.add_assoc _ _ _))⟩))))
                 go_meet
                 case rel => (try rw [← Nbq52.out]); exact ⟨_,((((rd_T60 l0_1 x20_2).f0) != 3)),(by first | rfl | (simp; done) | (simp [*]; done)),H',⟨by have := HJ1.out; have := HK2.out; first | omega | exact Nat.le_refl _⟩,⟨by (with_reducible repeat (first | refine blk_drewN ?_ _ | refine blk_drew ?_ | refine blk_alloc ?_ _)); refine blk_far ?_ NB103_107.out _; (with_reducible repeat (first | refine blk_drewN ?_ _ | refine blk_drew ?_ | refine blk_alloc ?_ _)); refine blk_far ?_ NB103_107.out _; (with_reducible repeat (first | refine blk_drewN ?_ _ | refine blk_drew ?_ | refine blk_alloc ?_ _)); refine blk_far ?_ NB103_107.out _; (with_reducible repeat (first | refine blk_drewN ?_ _ | refine blk_drew ?_ | refine blk_alloc ?_ _)); refine blk_far ?_ NB103_107.out _; (with_reducible repeat (first | refine blk_drewN ?_ _ | refine blk_drew ?_ | refine blk_alloc ?_ _)); first | exact BK103.out | (simp only [*]; exact BK103.out)⟩,⟨by (with_reducible repeat (first | refine blk_drewN ?_ _ | refine blk_drew ?_ | refine blk_alloc ?_ _)); refine blk_put (cs := #[.int .i64 ((rd_T60 l0_1 x20_2).f0),.int .i64 ((rd_T60 l0_1 x20_2).f1),.int .i64 ((rd_T60 l0_1 x20_2).f2),.bool false]) ?_ 3 _ rfl; (with_reducible repeat (first | refine blk_drewN ?_ _ | refine blk_drew ?_ | refine blk_alloc ?_ _)); refine blk_put (cs := #[.int .i64 ((rd_T60 l0_1 x20_2).f0),.int .i64 ((rd_T60 l0_1 x20_2).f1),.int .i64 0,.bool false]) ?_ 2 _ rfl; (with_reducible repeat (first | refine blk_drewN ?_ _ | refine blk_drew ?_ | refine blk_alloc ?_ _)); refine blk_put (cs := #[.int .i64 ((rd_T60 l0_1 x20_2).f0),.int .i64 0,.int .i64 0,.bool false]) ?_ 1 _ rfl; (with_reducible repeat (first | refine blk_drewN ?_ _ | refine blk_drew ?_ | refine blk_alloc ?_ _)); refine blk_put (cs := #[.int .i64 0,.int .i64 0,.int .i64 0,.bool false]) ?_ 0 _ rfl; (with_reducible repeat (first | refine blk_drewN ?_ _ | refine blk_drew ?_ | refine blk_alloc ?_ _)); first | exact BK107.out | (simp only [*]; exact BK107.out)⟩,⟨by repeat (first | (with_reducible first | exact HB.out | apply below_alloc | apply pw_below_drewN | apply below_drew1 | refine below_set ?_ GE103.out | refine below_set ?_ GE107.out) | exact HB.out)⟩⟩
                ·replace c53 := Bool.eq_false_iff.mpr c53
                 subst c53
                 (try rw [← Nbq52.out])
                 have H1 : (impl_LockOk.j2 k2 x3_2 x20_2 l0_1 (l0_1.length : Int) x20_2 false a0_0 l0_1 l0_2 ((rd_T60 l0_1 x20_2).f0) ((rd_T60 l0_1 x20_2).f1) ((rd_T60 l0_1 x20_2).f2) false) = some r := by rw [if_neg (show ¬ (false = true) by decide)] at H; exact H
                 clear H
                 have H := H1
                 clear H1
                 have H' := Aside0.mk H
                 clear H
                 have hnb56 := NB107_103.out
                 have hnc56 := NB103_107.out
                 have hcz57_0 : w15.cell? ⟨gb107,0,none⟩ = some (.int .i64 0) := (blk_cell BK107.out 0).trans rfl
                 have hcz57_1 : w15.cell? ⟨gb107,1,none⟩ = some (.int .i64 0) := (blk_cell BK107.out 1).trans rfl
                 have hcz57_2 : w15.cell? ⟨gb107,2,none⟩ = some (.int .i64 0) := (blk_cell BK107.out 2).trans rfl
                 have hcz57_3 : w15.cell? ⟨gb107,3,none⟩ = some (.bool false) := (blk_cell BK107.out 3).trans rfl
                 have hfz57_0 := blk_frozen BK107.out 0
                 have hfz57_1 := blk_frozen BK107.out 1
                 have hfz57_2 := blk_frozen BK107.out 2
                 have hfz57_3 := blk_frozen BK107.out 3
                 go_wp2_with (first | (go_at_call 30; (with_reducible refine (impl_in.calls ((rd_T60 l0_1 x20_2).f0) 0 6 true _ A18.out).mono ?_); rintro e w' ⟨rfl,⟨nd,rfl⟩⟩; (try first | exact ⟨rfl,_,World.drewN_drewN _ _ _⟩ | exact ⟨rfl,_,Eq.trans (World.drewN_drewN _ _ _) (congrArg (World.drewN _) (Nat.add_assoc _ _ _))⟩)) | (go_at_call 30; (with_reducible refine (impl_in.calls ((rd_T60 l0_1 x20_2).f1) 0 2 true _ A20.out).mono ?_); rintro e w' ⟨rfl,⟨nd,rfl⟩⟩; (try first | exact ⟨rfl,_,World.drewN_drewN _ _ _⟩ | exact ⟨rfl,_,Eq.trans (World.drewN_drewN _ _ _) (congrArg (World.drewN _) (Nat.add_assoc _ _ _))⟩)) | (go_at_call 30; (with_reducible refine (impl_in.calls ((rd_T60 l0_1 x20_2).f2) 0 3 true _ A46.out).mono ?_); rintro e w' ⟨rfl,⟨nd,rfl⟩⟩; (try first | exact ⟨rfl,_,World.drewN_drewN _ _ _⟩ | exact ⟨rfl,_,Eq.trans (World.drewN_drewN _ _ _) (congrArg (World.drewN _) (Nat.add_assoc _ _ _))⟩)))
                 repeat (go_quiet (first | (go_at_call 30; (with_reducible refine (impl_in.calls ((rd_T60 l0_1 x20_2).f0) 0 6 true _ A18.out).mono ?_); rintro e w' ⟨rfl,⟨nd,rfl⟩⟩; (try first | exact ⟨rfl,_,World.drewN_drewN _ _ _⟩ | exact ⟨rfl,_,Eq.trans (World.drewN_drewN _ _ _) (congrArg (World.drewN _) (Nat.add_assoc _ _ _))⟩)) | (go_at_call 30; (with_reducible refine (impl_in.calls ((rd_T60 l0_1 x20_2).f1) 0 2 true _ A20.out).mono ?_); rintro e w' ⟨rfl,⟨nd,rfl⟩⟩; (try first | exact ⟨rfl,_,World.drewN_drewN _ _ _⟩ | exact ⟨rfl,_,Eq.trans (World.drewN_drewN _ _ _) (congrArg (World.drewN _) (Nat.add_assoc _ _ _))⟩)) | (go_at_call 30; (with_reducible refine (impl_in.calls ((rd_T60 l0_1 x20_2).f2) 0 3 true _ A46.out).mono ?_); rintro e w' ⟨rfl,⟨nd,rfl⟩⟩; (try first | exact ⟨rfl,_,World.drewN_drewN _ _ _⟩ | exact ⟨rfl,_,Eq.trans (World.drewN_drewN _ _ _) (congrArg (World.drewN _) (Nat.add_assoc _ _ _))⟩))); try go_wp2_with (first | (go_at_call 30; (with_reducible refine (impl_in.calls ((rd_T60 l0_1 x20_2).f0) 0 6 true _ A18.out).mono ?_); rintro e w' ⟨rfl,⟨nd,rfl⟩⟩; (try first | exact ⟨rfl,_,World.drewN_drewN _ _ _⟩ | exact ⟨rfl,_,Eq.trans (World.drewN_drewN _ _ _) (congrArg (World.drewN _) (Nat.add_assoc _ _ _))⟩)) | (go_at_call 30; (with_reducible refine (impl_in.calls ((rd_T60 l0_1 x20_2).f1) 0 2 true _ A20.out).mono ?_); rintro e w' ⟨rfl,⟨nd,rfl⟩⟩; (try first | exact ⟨rfl,_,World.drewN_drewN _ _ _⟩ | exact ⟨rfl,_,Eq.trans (World.drewN_drewN _ _ _) (congrArg (World.drewN _) (Nat.add_assoc _ _ _))⟩)) | (go_at_call 30; (with_reducible refine (impl_in.calls ((rd_T60 l0_1 x20_2).f2) 0 3 true _ A46.out).mono ?_); rintro e w' ⟨rfl,⟨nd,rfl⟩⟩; (try first | exact ⟨rfl,_,World.drewN_drewN _ _ _⟩ | exact ⟨rfl,_,Eq.trans (World.drewN_drewN _ _ _) (congrArg (World.drewN _) (Nat.add_assoc _ _ _))⟩))))
                 go_meet
                 case rel => (try rw [← Nbq52.out]); exact ⟨_,(false),(by first | rfl | (simp; done) | (simp [*]; done)),H',⟨by have := HJ1.out; have := HK2.out; first | omega | exact Nat.le_refl _⟩,⟨by (with_reducible repeat (first | refine blk_drewN ?_ _ | refine blk_drew ?_ | refine blk_alloc ?_ _)); refine blk_far ?_ NB103_107.out _; (with_reducible repeat (first | refine blk_drewN ?_ _ | refine blk_drew ?_ | refine blk_alloc ?_ _)); refine blk_far ?_ NB103_107.out _; (with_reducible repeat (first | refine blk_drewN ?_ _ | refine blk_drew ?_ | refine blk_alloc ?_ _)); refine blk_far ?_ NB103_107.out _; (with_reducible repeat (first | refine blk_drewN ?_ _ | refine blk_drew ?_ | refine blk_alloc ?_ _)); refine blk_far ?_ NB103_107.out _; (with_reducible repeat (first | refine blk_drewN ?_ _ | refine blk_drew ?_ | refine blk_alloc ?_ _)); first | exact BK103.out | (simp only [*]; exact BK103.out)⟩,⟨by (with_reducible repeat (first | refine blk_drewN ?_ _ | refine blk_drew ?_ | refine blk_alloc ?_ _)); refine blk_put (cs := #[.int .i64 ((rd_T60 l0_1 x20_2).f0),.int .i64 ((rd_T60 l0_1 x20_2).f1),.int .i64 ((rd_T60 l0_1 x20_2).f2),.bool false]) ?_ 3 _ rfl; (with_reducible repeat (first | refine blk_drewN ?_ _ | refine blk_drew ?_ | refine blk_alloc ?_ _)); refine blk_put (cs := #[.int .i64 ((rd_T60 l0_1 x20_2).f0),.int .i64 ((rd_T60 l0_1 x20_2).f1),.int .i64 0,.bool false]) ?_ 2 _ rfl; (with_reducible repeat (first | refine blk_drewN ?_ _ | refine blk_drew ?_ | refine blk_alloc ?_ _)); refine blk_put (cs := #[.int .i64 ((rd_T60 l0_1 x20_2).f0),.int .i64 0,.int .i64 0,.bool false]) ?_ 1 _ rfl; (with_reducible repeat (first | refine blk_drewN ?_ _ | refine blk_drew ?_ | refine blk_alloc ?_ _)); refine blk_put (cs := #[.int .i64 0,.int .i64 0,.int .i64 0,.bool false]) ?_ 0 _ rfl; (with_reducible repeat (first | refine blk_drewN ?_ _ | refine blk_drew ?_ | refine blk_alloc ?_ _)); first | exact BK107.out | (simp only [*]; exact BK107.out)⟩,⟨by repeat (first | (with_reducible first | exact HB.out | apply below_alloc | apply pw_below_drewN | apply below_drew1 | refine below_set ?_ GE103.out | refine below_set ?_ GE107.out) | exact HB.out)⟩⟩
              ·rw [if_neg c48] at H
               have c48b0 : decide (0 < ((rd_T60 l0_1 x20_2).f0)) = false := decide_eq_false c48
               clear c48
               obtain ⟨bq58,hbq58⟩ : ∃ b_ : Bool,b_ = ((rd_T60 l0_1 x20_2).f3) := ⟨_,rfl⟩
               replace H : (if bq58 = true then (impl_LockOk.j2 k2 x3_2 x20_2 l0_1 (l0_1.length : Int) x20_2 (((rd_T60 l0_1 x20_2).f0) != 3) a0_0 l0_1 l0_2 ((rd_T60 l0_1 x20_2).f0) ((rd_T60 l0_1 x20_2).f1) ((rd_T60 l0_1 x20_2).f2) bq58) else (impl_LockOk.j2 k2 x3_2 x20_2 l0_1 (l0_1.length : Int) x20_2 false a0_0 l0_1 l0_2 ((rd_T60 l0_1 x20_2).f0) ((rd_T60 l0_1 x20_2).f1) ((rd_T60 l0_1 x20_2).f2) bq58)) = some r := by rw [← hbq58] at H; exact H
               have Nbq58 := Aside0.mk hbq58
               clear hbq58
               by_cases c59 : bq58 = true
               ·subst c59
                (try rw [← Nbq58.out])
                have H1 : (impl_LockOk.j2 k2 x3_2 x20_2 l0_1 (l0_1.length : Int) x20_2 (((rd_T60 l0_1 x20_2).f0) != 3) a0_0 l0_1 l0_2 ((rd_T60 l0_1 x20_2).f0) ((rd_T60 l0_1 x20_2).f1) ((rd_T60 l0_1 x20_2).f2) true) = some r := by rw [if_pos rfl] at H; exact H
                clear H
                have H := H1
                clear H1
                have H' := Aside0.mk H
                clear H
                have hnb60 := NB107_103.out
                have hnc60 := NB103_107.out
                have hcz61_0 : w15.cell? ⟨gb107,0,none⟩ = some (.int .i64 0) := (blk_cell BK107.out 0).trans rfl
                have hcz61_1 : w15.cell? ⟨gb107,1,none⟩ = some (.int .i64 0) := (blk_cell BK107.out 1).trans rfl
                have hcz61_2 : w15.cell? ⟨gb107,2,none⟩ = some (.int .i64 0) := (blk_cell BK107.out 2).trans rfl
                have hcz61_3 : w15.cell? ⟨gb107,3,none⟩ = some (.bool false) := (blk_cell BK107.out 3).trans rfl
                have hfz61_0 := blk_frozen BK107.out 0
                have hfz61_1 := blk_frozen BK107.out 1
                have hfz61_2 := blk_frozen BK107.out 2
                have hfz61_3 := blk_frozen BK107.out 3
                go_wp2_with (first | (go_at_call 30; (with_reducible refine (impl_in.calls ((rd_T60 l0_1 x20_2).f0) 0 6 true _ A18.out).mono ?_); rintro e w' ⟨rfl,⟨nd,rfl⟩⟩; (try first | exact ⟨rfl,_,World.drewN_drewN _ _ _⟩ | exact ⟨rfl,_,Eq.trans (World.drewN_drewN _ _ _) (congrArg (World.drewN _) (Nat.add_assoc _ _ _))⟩)) | (go_at_call 30; (with_reducible refine (impl_in.calls ((rd_T60 l0_1 x20_2).f1) 0 2 true _ A20.out).mono ?_); rintro e w' ⟨rfl,⟨nd,rfl⟩⟩; (try first | exact ⟨rfl,_,World.drewN_drewN _ _ _⟩ | exact ⟨rfl,_,Eq.trans (World.drewN_drewN _ _ _) (congrArg (World.drewN _) (Nat.add_assoc _ _ _))⟩)) | (go_at_call 30; (with_reducible refine (impl_in.calls ((rd_T60 l0_1 x20_2).f2) 0 3 true _ A46.out).mono ?_); rintro e w' ⟨rfl,⟨nd,rfl⟩⟩; (try first | exact ⟨rfl,_,World.drewN_drewN _ _ _⟩ | exact ⟨rfl,_,Eq.trans (World.drewN_drewN _ _ _) (congrArg (World.drewN _) (Nat.add_assoc _ _ _))⟩)))
                repeat (go_quiet (first | (go_at_call 30; (with_reducible refine (impl_in.calls ((rd_T60 l0_1 x20_2).f0) 0 6 true _ A18.out).mono ?_); rintro e w' ⟨rfl,⟨nd,rfl⟩⟩; (try first | exact ⟨rfl,_,World.drewN_drewN _ _ _⟩ | exact ⟨rfl,_,Eq.trans (World.drewN_drewN _ _ _) (congrArg (World.drewN _) (Nat.add_assoc _ _ _))⟩)) | (go_at_call 30; (with_reducible refine (impl_in.calls ((rd_T60 l0_1 x20_2).f1) 0 2 true _ A20.out).mono ?_); rintro e w' ⟨rfl,⟨nd,rfl⟩⟩; (try first | exact ⟨rfl,_,World.drewN_drewN _ _ _⟩ | exact ⟨rfl,_,Eq.trans (World.drewN_drewN _ _ _) (congrArg (World.drewN _) (Nat.add_assoc _ _ _))⟩)) | (go_at_call 30; (with_reducible refine (impl_in.calls ((rd_T60 l0_1 x20_2).f2) 0 3 true _ A46.out).mono ?_); rintro e w' ⟨rfl,⟨nd,rfl⟩⟩; (try first | exact ⟨rfl,_,World.drewN_drewN _ _ _⟩ | exact ⟨rfl,_,Eq.trans (World.drewN_drewN _ _ _) (congrArg (World.drewN _) (Nat.add_assoc _ _ _))⟩))); try go_wp2_with (first | (go_at_call 30; (with_reducible refine (impl_in.calls ((rd_T60 l0_1 x20_2).f0) 0 6 true _ A18.out).mono ?_); rintro e w' ⟨rfl,⟨nd,rfl⟩⟩; (try first | exact ⟨rfl,_,World.drewN_drewN _ _ _⟩ | exact ⟨rfl,_,Eq.trans (World.drewN_drewN _ _ _) (congrArg (World.drewN _) (Nat.add_assoc _ _ _))⟩)) | (go_at_call 30; (with_reducible refine (impl_in.calls ((rd_T60 l0_1 x20_2).f1) 0 2 true _ A20.out).mono ?_); rintro e w' ⟨rfl,⟨nd,rfl⟩⟩; (try first | exact ⟨rfl,_,World.drewN_drewN _ _ _⟩ | exact ⟨rfl,_,Eq.trans (World.drewN_drewN _ _ _) (congrArg (World.drewN _) (Nat.add_assoc _ _ _))⟩)) | (go_at_call 30; (with_reducible refine (impl_in.calls ((rd_T60 l0_1 x20_2).f2) 0 3 true _ A46.out).mono ?_); rintro e w' ⟨rfl,⟨nd,rfl⟩⟩; (try first | exact ⟨rfl,_,World.drewN_drewN _ _ _⟩ | exact ⟨rfl,_,Eq.trans (World.drewN_drewN _ _ _) (congrArg (World.drewN _) (Nat.add_assoc _ _ _))⟩))))
                go_meet
                case rel => (try rw [← Nbq58.out]); exact ⟨_,((((rd_T60 l0_1 x20_2).f0) != 3)),(by first | rfl | (simp; done) | (simp [*]; done)),H',⟨by have := HJ1.out; have := HK2.out; first | omega | exact Nat.le_refl _⟩,⟨by (with_reducible repeat (first | refine blk_drewN ?_ _ | refine blk_drew ?_ | refine blk_alloc ?_ _)); refine blk_far ?_ NB103_107.out _; (with_reducible repeat (first | refine blk_drewN ?_ _ | refine blk_drew ?_ | refine blk_alloc ?_ _)); refine blk_far ?_ NB103_107.out _; (with_reducible repeat (first | refine blk_drewN ?_ _ | refine blk_drew ?_ | refine blk_alloc ?_ _)); refine blk_far ?_ NB103_107.out _; (with_reducible repeat (first | refine blk_drewN ?_ _ | refine blk_drew ?_ | refine blk_alloc ?_ _)); refine blk_far ?_ NB103_107.out _; (with_reducible repeat (first | refine blk_drewN ?_ _ | refine blk_drew ?_ | refine blk_alloc ?_ _)); first | exact BK103.out | (simp only [*]; exact BK103.out)⟩,⟨by (with_reducible repeat (first | refine blk_drewN ?_ _ | refine blk_drew ?_ | refine blk_alloc ?_ _)); refine blk_put (cs := #[.int .i64 ((rd_T60 l0_1 x20_2).f0),.int .i64 ((rd_T60 l0_1 x20_2).f1),.int .i64 ((rd_T60 l0_1 x20_2).f2),.bool false]) ?_ 3 _ rfl; (with_reducible repeat (first | refine blk_drewN ?_ _ | refine blk_drew ?_ | refine blk_alloc ?_ _)); refine blk_put (cs := #[.int .i64 ((rd_T60 l0_1 x20_2).f0),.int .i64 ((rd_T60 l0_1 x20_2).f1),.int .i64 0,.bool false]) ?_ 2 _ rfl; (with_reducible repeat (first | refine blk_drewN ?_ _ | refine blk_drew ?_ | refine blk_alloc ?_ _)); refine blk_put (cs := #[.int .i64 ((rd_T60 l0_1 x20_2).f0),.int .i64 0,.int .i64 0,.bool false]) ?_ 1 _ rfl; (with_reducible repeat (first | refine blk_drewN ?_ _ | refine blk_drew ?_ | refine blk_alloc ?_ _)); refine blk_put (cs := #[.int .i64 0,.int .i64 0,.int .i64 0,.bool false]) ?_ 0 _ rfl; (with_reducible repeat (first | refine blk_drewN ?_ _ | refine blk_drew ?_ | refine blk_alloc ?_ _)); first | exact BK107.out | (simp only [*]; exact BK107.out)⟩,⟨by repeat (first | (with_reducible first | exact HB.out | apply below_alloc | apply pw_below_drewN | apply below_drew1 | refine below_set ?_ GE103.out | refine below_set ?_ GE107.out) | exact HB.out)⟩⟩
               ·replace c59 := Bool.eq_false_iff.mpr c59
                subst c59
                (try rw [← Nbq58.out])
                have H1 : (impl_LockOk.j2 k2 x3_2 x20_2 l0_1 (l0_1.length : Int) x20_2 false a0_0 l0_1 l0_2 ((rd_T60 l0_1 x20_2).f0) ((rd_T60 l0_1 x20_2).f1) ((rd_T60 l0_1 x20_2).f2) false) = some r := by rw [if_neg (show ¬ (false = true) by decide)] at H; exact H
                clear H
                have H := H1
                clear H1
                have H' := Aside0.mk H
                clear H
                have hnb62 := NB107_103.out
                have hnc62 := NB103_107.out
                have hcz63_0 : w15.cell? ⟨gb107,0,none⟩ = some (.int .i64 0) := (blk_cell BK107.out 0).trans rfl
                have hcz63_1 : w15.cell? ⟨gb107,1,none⟩ = some (.int .i64 0) := (blk_cell BK107.out 1).trans rfl
                have hcz63_2 : w15.cell? ⟨gb107,2,none⟩ = some (.int .i64 0) := (blk_cell BK107.out 2).trans rfl
                have hcz63_3 : w15.cell? ⟨gb107,3,none⟩ = some (.bool false) := (blk_cell BK107.out 3).trans rfl
                have hfz63_0 := blk_frozen BK107.out 0
                have hfz63_1 := blk_frozen BK107.out 1
                have hfz63_2 := blk_frozen BK107.out 2
                have hfz63_3 := blk_frozen BK107.out 3
                go_wp2_with (first | (go_at_call 30; (with_reducible refine (impl_in.calls ((rd_T60 l0_1 x20_2).f0) 0 6 true _ A18.out).mono ?_); rintro e w' ⟨rfl,⟨nd,rfl⟩⟩; (try first | exact ⟨rfl,_,World.drewN_drewN _ _ _⟩ | exact ⟨rfl,_,Eq.trans (World.drewN_drewN _ _ _) (congrArg (World.drewN _) (Nat.add_assoc _ _ _))⟩)) | (go_at_call 30; (with_reducible refine (impl_in.calls ((rd_T60 l0_1 x20_2).f1) 0 2 true _ A20.out).mono ?_); rintro e w' ⟨rfl,⟨nd,rfl⟩⟩; (try first | exact ⟨rfl,_,World.drewN_drewN _ _ _⟩ | exact ⟨rfl,_,Eq.trans (World.drewN_drewN _ _ _) (congrArg (World.drewN _) (Nat.add_assoc _ _ _))⟩)) | (go_at_call 30; (with_reducible refine (impl_in.calls ((rd_T60 l0_1 x20_2).f2) 0 3 true _ A46.out).mono ?_); rintro e w' ⟨rfl,⟨nd,rfl⟩⟩; (try first | exact ⟨rfl,_,World.drewN_drewN _ _ _⟩ | exact ⟨rfl,_,Eq.trans (World.drewN_drewN _ _ _) (congrArg (World.drewN _) (Nat.add_assoc _ _ _))⟩)))
                repeat (go_quiet (first | (go_at_call 30; (with_reducible refine (impl_in.calls ((rd_T60 l0_1 x20_2).f0) 0 6 true _ A18.out).mono ?_); rintro e w' ⟨rfl,⟨nd,rfl⟩⟩; (try first | exact ⟨rfl,_,World.drewN_drewN _ _ _⟩ | exact ⟨rfl,_,Eq.trans (World.drewN_drewN _ _ _) (congrArg (World.drewN _) (Nat.add_assoc _ _ _))⟩)) | (go_at_call 30; (with_reducible refine (impl_in.calls ((rd_T60 l0_1 x20_2).f1) 0 2 true _ A20.out).mono ?_); rintro e w' ⟨rfl,⟨nd,rfl⟩⟩; (try first | exact ⟨rfl,_,World.drewN_drewN _ _ _⟩ | exact ⟨rfl,_,Eq.trans (World.drewN_drewN _ _ _) (congrArg (World.drewN _) (Nat.add_assoc _ _ _))⟩)) | (go_at_call 30; (with_reducible refine (impl_in.calls ((rd_T60 l0_1 x20_2).f2) 0 3 true _ A46.out).mono ?_); rintro e w' ⟨rfl,⟨nd,rfl⟩⟩; (try first | exact ⟨rfl,_,World.drewN_drewN _ _ _⟩ | exact ⟨rfl,_,Eq.trans (World.drewN_drewN _ _ _) (congrArg (World.drewN _) (Nat.add_assoc _ _ _))⟩))); try go_wp2_with (first | (go_at_call 30; (with_reducible refine (impl_in.calls ((rd_T60 l0_1 x20_2).f0) 0 6 true _ A18.out).mono ?_); rintro e w' ⟨rfl,⟨nd,rfl⟩⟩; (try first | exact ⟨rfl,_,World.drewN_drewN _ _ _⟩ | exact ⟨rfl,_,Eq.trans (World.drewN_drewN _ _ _) (congrArg (World.drewN _) (Nat.add_assoc _ _ _))⟩)) | (go_at_call 30; (with_reducible refine (impl_in.calls ((rd_T60 l0_1 x20_2).f1) 0 2 true _ A20.out).mono ?_); rintro e w' ⟨rfl,⟨nd,rfl⟩⟩; (try first | exact ⟨rfl,_,World.drewN_drewN _ _ _⟩ | exact ⟨rfl,_,Eq.trans (World.drewN_drewN _ _ _) (congrArg (World.drewN _) (Nat.add_assoc _ _ _))⟩)) | (go_at_call 30; (with_reducible refine (impl_in.calls ((rd_T60 l0_1 x20_2).f2) 0 3 true _ A46.out).mono ?_); rintro e w' ⟨rfl,⟨nd,rfl⟩⟩; (try first | exact ⟨rfl,_,World.drewN_drewN _ _ _⟩ | exact ⟨rfl,_,Eq.trans (World.drewN_drewN _ _ _) (congrArg (World.drewN _) (Nat.add_assoc _ _ _))⟩))))
                go_meet
                case rel => (try rw [← Nbq58.out]); exact ⟨_,(false),(by first | rfl | (simp; done) | (simp [*]; done)),H',⟨by have := HJ1.out; have := HK2.out; first | omega | exact Nat.le_refl _⟩,⟨by (with_reducible repeat (first | refine blk_drewN ?_ _ | refine blk_drew ?_ | refine blk_alloc ?_ _)); refine blk_far ?_ NB103_107.out _; (with_reducible repeat (first | refine blk_drewN ?_ _ | refine blk_drew ?_ | refine blk_alloc ?_ _)); refine blk_far ?_ NB103_107.out _; (with_reducible repeat (first | refine blk_drewN ?_ _ | refine blk_drew ?_ | refine blk_alloc ?_ _)); refine blk_far ?_ NB103_107.out _; (with_reducible repeat (first | refine blk_drewN ?_ _ | refine blk_drew ?_ | refine blk_alloc ?_ _)); refine blk_far ?_ NB103_107.out _; (with_reducible repeat (first | refine blk_drewN ?_ _ | refine blk_drew ?_ | refine blk_alloc ?_ _)); first | exact BK103.out | (simp only [*]; exact BK103.out)⟩,⟨by (with_reducible repeat (first | refine blk_drewN ?_ _ | refine blk_drew ?_ | refine blk_alloc ?_ _)); refine blk_put (cs := #[.int .i64 ((rd_T60 l0_1 x20_2).f0),.int .i64 ((rd_T60 l0_1 x20_2).f1),.int .i64 ((rd_T60 l0_1 x20_2).f2),.bool false]) ?_ 3 _ rfl; (with_reducible repeat (first | refine blk_drewN ?_ _ | refine blk_drew ?_ | refine blk_alloc ?_ _)); refine blk_put (cs := #[.int .i64 ((rd_T60 l0_1 x20_2).f0),.int .i64 ((rd_T60 l0_1 x20_2).f1),.int .i64 0,.bool false]) ?_ 2 _ rfl; (with_reducible repeat (first | refine blk_drewN ?_ _ | refine blk_drew ?_ | refine blk_alloc ?_ _)); refine blk_put (cs := #[.int .i64 ((rd_T60 l0_1 x20_2).f0),.int .i64 0,.int .i64 0,.bool false]) ?_ 1 _ rfl; (with_reducible repeat (first | refine blk_drewN ?_ _ | refine blk_drew ?_ | refine blk_alloc ?_ _)); refine blk_put (cs := #[.int .i64 0,.int .i64 0,.int .i64 0,.bool false]) ?_ 0 _ rfl; (with_reducible repeat (first | refine blk_drewN ?_ _ | refine blk_drew ?_ | refine blk_alloc ?_ _)); first | exact BK107.out | (simp only [*]; exact BK107.out)⟩,⟨by repeat (first | (with_reducible first | exact HB.out | apply below_alloc | apply pw_below_drewN | apply below_drew1 | refine below_set ?_ GE103.out | refine below_set ?_ GE107.out) | exact HB.out)⟩⟩
             ·replace c47 := Bool.eq_false_iff.mpr c47
              subst c47
              have H1 : (impl_LockOk.j2 k2 x3_2 x20_2 l0_1 (l0_1.length : Int) x20_2 true a0_0 l0_1 l0_2 ((rd_T60 l0_1 x20_2).f0) ((rd_T60 l0_1 x20_2).f1) ((rd_T60 l0_1 x20_2).f2) ((rd_T60 l0_1 x20_2).f3)) = some r := by rw [if_neg (show ¬ (false = true) by decide)] at H; exact H
              clear H
              have H := H1
              clear H1
              have H' := Aside0.mk H
              clear H
              have hnb64 := NB107_103.out
              have hnc64 := NB103_107.out
              have hcz65_0 : w15.cell? ⟨gb107,0,none⟩ = some (.int .i64 0) := (blk_cell BK107.out 0).trans rfl
              have hcz65_1 : w15.cell? ⟨gb107,1,none⟩ = some (.int .i64 0) := (blk_cell BK107.out 1).trans rfl
              have hcz65_2 : w15.cell? ⟨gb107,2,none⟩ = some (.int .i64 0) := (blk_cell BK107.out 2).trans rfl
              have hcz65_3 : w15.cell? ⟨gb107,3,none⟩ = some (.bool false) := (blk_cell BK107.out 3).trans rfl
              have hfz65_0 := blk_frozen BK107.out 0
              have hfz65_1 := blk_frozen BK107.out 1
              have hfz65_2 := blk_frozen BK107.out 2
              have hfz65_3 := blk_frozen BK107.out 3
              go_wp2_with (first | (go_at_call 30; (with_reducible refine (impl_in.calls ((rd_T60 l0_1 x20_2).f0) 0 6 true _ A18.out).mono ?_); rintro e w' ⟨rfl,⟨nd,rfl⟩⟩; (try first | exact ⟨rfl,_,World.drewN_drewN _ _ _⟩ | exact ⟨rfl,_,Eq.trans (World.drewN_drewN _ _ _) (congrArg (World.drewN _) (Nat.add_assoc _ _ _))⟩)) | (go_at_call 30; (with_reducible refine (impl_in.calls ((rd_T60 l0_1 x20_2).f1) 0 2 true _ A20.out).mono ?_); rintro e w' ⟨rfl,⟨nd,rfl⟩⟩; (try first | exact ⟨rfl,_,World.drewN_drewN _ _ _⟩ | exact ⟨rfl,_,Eq.trans (World.drewN_drewN _ _ _) (congrArg (World.drewN _) (Nat.add_assoc _ _ _))⟩)) | (go_at_call 30; (with_reducible refine (impl_in.calls ((rd_T60 l0_1 x20_2).f2) 0 3 false _ A46.out).mono ?_); rintro e w' ⟨rfl,⟨nd,rfl⟩⟩; (try first | exact ⟨rfl,_,World.drewN_drewN _ _ _⟩ | exact ⟨rfl,_,Eq.trans (World.drewN_drewN _ _ _) (congrArg (World.drewN _) (Nat.add_assoc _ _ _))⟩)))
              repeat (go_quiet (first | (go_at_call 30; (with_reducible refine (impl_in.calls ((rd_T60 l0_1 x20_2).f0) 0 6 true _ A18.out).mono ?_); rintro e w' ⟨rfl,⟨nd,rfl⟩⟩; (try first | exact ⟨rfl,_,World.drewN_drewN _ _ _⟩ | exact ⟨rfl,_,Eq.trans (World.drewN_drewN _ _ _) (congrArg (World.drewN _) (Nat.add_assoc _ _ _))⟩)) | (go_at_call 30; (with_reducible refine (impl_in.calls ((rd_T60 l0_1 x20_2).f1) 0 2 true _ A20.out).mono ?_); rintro e w' ⟨rfl,⟨nd,rfl⟩⟩; (try first | exact ⟨rfl,_,World.drewN_drewN _ _ _⟩ | exact ⟨rfl,_,Eq.trans (World.drewN_drewN _ _ _) (congrArg (World.drewN _) (Nat.add_assoc _ _ _))⟩)) | (go_at_call 30; (with_reducible refine (impl_in.calls ((rd_T60 l0_1 x20_2).f2) 0 3 false _ A46.out).mono ?_); rintro e w' ⟨rfl,⟨nd,rfl⟩⟩; (try first | exact ⟨rfl,_,World.drewN_drewN _ _ _⟩ | exact ⟨rfl,_,Eq.trans (World.drewN_drewN _ _ _) (congrArg (World.drewN _) (Nat.add_assoc _ _ _))⟩))); try go_wp2_with (first | (go_at_call 30; (with_reducible refine (impl_in.calls ((rd_T60 l0_1 x20_2).f0) 0 6 true _ A18.out).mono ?_); rintro e w' ⟨rfl,⟨nd,rfl⟩⟩; (try first | exact ⟨rfl,_,World.drewN_drewN _ _ _⟩ | exact ⟨rfl,_,Eq.trans (World.drewN_drewN _ _ _) (congrArg (World.drewN _) (Nat.add_assoc _ _ _))⟩)) | (go_at_call 30; (with_reducible refine (impl_in.calls ((rd_T60 l0_1 x20_2).f1) 0 2 true _ A20.out).mono ?_); rintro e w' ⟨rfl,⟨nd,rfl⟩⟩; (try first | exact ⟨rfl,_,World.drewN_drewN _ _ _⟩ | exact ⟨rfl,_,Eq.trans (World.drewN_drewN _ _ _) (congrArg (World.drewN _) (Nat.add_assoc _ _ _))⟩)) | (go_at_call 30; (with_reducible refine (impl_in.calls ((rd_T60 l0_1 x20_2).f2) 0 3 false _ A46.out).mono ?_); rintro e w' ⟨rfl,⟨nd,rfl⟩⟩; (try first | exact ⟨rfl,_,World.drewN_drewN _ _ _⟩ | exact ⟨rfl,_,Eq.trans (World.drewN_drewN _ _ _) (congrArg (World.drewN _) (Nat.add_assoc _ _ _))⟩))))
              go_meet
              case rel => exact ⟨_,(true),(by first | rfl | (simp; done) | (simp [*]; done)),H',⟨by have := HJ1.out; have := HK2.out; first | omega | exact Nat.le_refl _⟩,⟨by (with_reducible repeat (first | refine blk_drewN ?_ _ | refine blk_drew ?_ | refine blk_alloc ?_ _)); refine blk_far ?_ NB103_107.out _; (with_reducible repeat (first | refine blk_drewN ?_ _ | refine blk_drew ?_ | refine blk_alloc ?_ _)); refine blk_far ?_ NB103_107.out _; (with_reducible repeat (first | refine blk_drewN ?_ _ | refine blk_drew ?_ | refine blk_alloc ?_ _)); refine blk_far ?_ NB103_107.out _; (with_reducible repeat (first | refine blk_drewN ?_ _ | refine blk_drew ?_ | refine blk_alloc ?_ _)); refine blk_far ?_ NB103_107.out _; (with_reducible repeat (first | refine blk_drewN ?_ _ | refine blk_drew ?_ | refine blk_alloc ?_ _)); first | exact BK103.out | (simp only [*]; exact BK103.out)⟩,⟨by (with_reducible repeat (first | refine blk_drewN ?_ _ | refine blk_drew ?_ | refine blk_alloc ?_ _)); refine blk_put (cs := #[.int .i64 ((rd_T60 l0_1 x20_2).f0),.int .i64 ((rd_T60 l0_1 x20_2).f1),.int .i64 ((rd_T60 l0_1 x20_2).f2),.bool false]) ?_ 3 _ rfl; (with_reducible repeat (first | refine blk_drewN ?_ _ | refine blk_drew ?_ | refine blk_alloc ?_ _)); refine blk_put (cs := #[.int .i64 ((rd_T60 l0_1 x20_2).f0),.int .i64 ((rd_T60 l0_1 x20_2).f1),.int .i64 0,.bool false]) ?_ 2 _ rfl; (with_reducible repeat (first | refine blk_drewN ?_ _ | refine blk_drew ?_ | refine blk_alloc ?_ _)); refine blk_put (cs := #[.int .i64 ((rd_T60 l0_1 x20_2).f0),.int .i64 0,.int .i64 0,.bool false]) ?_ 1 _ rfl; (with_reducible repeat (first | refine blk_drewN ?_ _ | refine blk_drew ?_ | refine blk_alloc ?_ _)); refine blk_put (cs := #[.int .i64 0,.int .i64 0,.int .i64 0,.bool false]) ?_ 0 _ rfl; (with_reducible repeat (first | refine blk_drewN ?_ _ | refine blk_drew ?_ | refine blk_alloc ?_ _)); first | exact BK107.out | (simp only [*]; exact BK107.out)⟩,⟨by repeat (first | (with_reducible first | exact HB.out | apply below_alloc | apply pw_below_drewN | apply below_drew1 | refine below_set ?_ GE103.out | refine below_set ?_ GE107.out) | exact HB.out)⟩⟩
           ·replace c21 := Bool.eq_false_iff.mpr c21
            subst c21
            have H1 : (impl_LockOk.j2 k2 x3_2 x20_2 l0_1 (l0_1.length : Int) x20_2 true a0_0 l0_1 l0_2 ((rd_T60 l0_1 x20_2).f0) ((rd_T60 l0_1 x20_2).f1) ((rd_T60 l0_1 x20_2).f2) ((rd_T60 l0_1 x20_2).f3)) = some r := by rw [if_neg (show ¬ (false = true) by decide)] at H; exact H
            clear H
            have H := H1
            clear H1
            have H' := Aside0.mk H
            clear H
            have hnb66 := NB107_103.out
            have hnc66 := NB103_107.out
            have hcz67_0 : w15.cell? ⟨gb107,0,none⟩ = some (.int .i64 0) := (blk_cell BK107.out 0).trans rfl
            have hcz67_1 : w15.cell? ⟨gb107,1,none⟩ = some (.int .i64 0) := (blk_cell BK107.out 1).trans rfl
            have hcz67_2 : w15.cell? ⟨gb107,2,none⟩ = some (.int .i64 0) := (blk_cell BK107.out 2).trans rfl
            have hcz67_3 : w15.cell? ⟨gb107,3,none⟩ = some (.bool false) := (blk_cell BK107.out 3).trans rfl
            have hfz67_0 := blk_frozen BK107.out 0
            have hfz67_1 := blk_frozen BK107.out 1
            have hfz67_2 := blk_frozen BK107.out 2
            have hfz67_3 := blk_frozen BK107.out 3
            go_wp2_with (first | (go_at_call 30; (with_reducible refine (impl_in.calls ((rd_T60 l0_1 x20_2).f0) 0 6 true _ A18.out).mono ?_); rintro e w' ⟨rfl,⟨nd,rfl⟩⟩; (try first | exact ⟨rfl,_,World.drewN_drewN _ _ _⟩ | exact ⟨rfl,_,Eq.trans (World.drewN_drewN _ _ _) (congrArg (World.drewN _) (Nat.add_assoc _ _ _))⟩)) | (go_at_call 30; (with_reducible refine (impl_in.calls ((rd_T60 l0_1 x20_2).f1) 0 2 false _ A20.out).mono ?_); rintro e w' ⟨rfl,⟨nd,rfl⟩⟩; (try first | exact ⟨rfl,_,World.drewN_drewN _ _ _⟩ | exact ⟨rfl,_,Eq.trans (World.drewN_drewN _ _ _) (congrArg (World.drewN _) (Nat.add_assoc _ _ _))⟩)))
            repeat (go_quiet (first | (go_at_call 30; (with_reducible refine (impl_in.calls ((rd_T60 l0_1 x20_2).f0) 0 6 true _ A18.out).mono ?_); rintro e w' ⟨rfl,⟨nd,rfl⟩⟩; (try first | exact ⟨rfl,_,World.drewN_drewN _ _ _⟩ | exact ⟨rfl,_,Eq.trans (World.drewN_drewN _ _ _) (congrArg (World.drewN _) (Nat.add_assoc _ _ _))⟩)) | (go_at_call 30; (with_reducible refine (impl_in.calls ((rd_T60 l0_1 x20_2).f1) 0 2 false _ A20.out).mono ?_); rintro e w' ⟨rfl,⟨nd,rfl⟩⟩; (try first | exact ⟨rfl,_,World.drewN_drewN _ _ _⟩ | exact ⟨rfl,_,Eq.trans (World.drewN_drewN _ _ _) (congrArg (World.drewN _) (Nat.add_assoc _ _ _))⟩))); try go_wp2_with (first | (go_at_call 30; (with_reducible refine (impl_in.calls ((rd_T60 l0_1 x20_2).f0) 0 6 true _ A18.out).mono ?_); rintro e w' ⟨rfl,⟨nd,rfl⟩⟩; (try first | exact ⟨rfl,_,World.drewN_drewN _ _ _⟩ | exact ⟨rfl,_,Eq.trans (World.drewN_drewN _ _ _) (congrArg (World.drewN _) (Nat.add_assoc _ _ _))⟩)) | (go_at_call 30; (with_reducible refine (impl_in.calls ((rd_T60 l0_1 x20_2).f1) 0 2 false _ A20.out).mono ?_); rintro e w' ⟨rfl,⟨nd,rfl⟩⟩; (try first | exact ⟨rfl,_,World.drewN_drewN _ _ _⟩ | exact ⟨rfl,_,Eq.trans (World.drewN_drewN _ _ _) (congrArg (World.drewN _) (Nat.add_assoc _ _ _))⟩))))
            go_meet
            case rel => exact ⟨_,(true),(by first | rfl | (simp; done) | (simp [*]; done)),H',⟨by have := HJ1.out; have := HK2.out; first | omega | exact Nat.le_refl _⟩,⟨by (with_reducible repeat (first | refine blk_drewN ?_ _ | refine blk_drew ?_ | refine blk_alloc ?_ _)); refine blk_far ?_ NB103_107.out _; (with_reducible repeat (first | refine blk_drewN ?_ _ | refine blk_drew ?_ | refine blk_alloc ?_ _)); refine blk_far ?_ NB103_107.out _; (with_reducible repeat (first | refine blk_drewN ?_ _ | refine blk_drew ?_ | refine blk_alloc ?_ _)); refine blk_far ?_ NB103_107.out _; (with_reducible repeat (first | refine blk_drewN ?_ _ | refine blk_drew ?_ | refine blk_alloc ?_ _)); refine blk_far ?_ NB103_107.out _; (with_reducible repeat (first | refine blk_drewN ?_ _ | refine blk_drew ?_ | refine blk_alloc ?_ _)); first | exact BK103.out | (simp only [*]; exact BK103.out)⟩,⟨by (with_reducible repeat (first | refine blk_drewN ?_ _ | refine blk_drew ?_ | refine blk_alloc ?_ _)); refine blk_put (cs := #[.int .i64 ((rd_T60 l0_1 x20_2).f0),.int .i64 ((rd_T60 l0_1 x20_2).f1),.int .i64 ((rd_T60 l0_1 x20_2).f2),.bool false]) ?_ 3 _ rfl; (with_reducible repeat (first | refine blk_drewN ?_ _ | refine blk_drew ?_ | refine blk_alloc ?_ _)); refine blk_put (cs := #[.int .i64 ((rd_T60 l0_1 x20_2).f0),.int .i64 ((rd_T60 l0_1 x20_2).f1),.int .i64 0,.bool false]) ?_ 2 _ rfl; (with_reducible repeat (first | refine blk_drewN ?_ _ | refine blk_drew ?_ | refine blk_alloc ?_ _)); refine blk_put (cs := #[.int .i64 ((rd_T60 l0_1 x20_2).f0),.int .i64 0,.int .i64 0,.bool false]) ?_ 1 _ rfl; (with_reducible repeat (first | refine blk_drewN ?_ _ | refine blk_drew ?_ | refine blk_alloc ?_ _)); refine blk_put (cs := #[.int .i64 0,.int .i64 0,.int .i64 0,.bool false]) ?_ 0 _ rfl; (with_reducible repeat (first | refine blk_drewN ?_ _ | refine blk_drew ?_ | refine blk_alloc ?_ _)); first | exact BK107.out | (simp only [*]; exact BK107.out)⟩,⟨by repeat (first | (with_reducible first | exact HB.out | apply below_alloc | apply pw_below_drewN | apply below_drew1 | refine below_set ?_ GE103.out | refine below_set ?_ GE107.out) | exact HB.out)⟩⟩
          ·replace c19 := Bool.eq_false_iff.mpr c19
           subst c19
           have H1 : (impl_LockOk.j2 k2 x3_2 x20_2 l0_1 (l0_1.length : Int) x20_2 true a0_0 l0_1 l0_2 ((rd_T60 l0_1 x20_2).f0) ((rd_T60 l0_1 x20_2).f1) ((rd_T60 l0_1 x20_2).f2) ((rd_T60 l0_1 x20_2).f3)) = some r := by rw [if_neg (show ¬ (false = true) by decide)] at H; exact H
           clear H
           have H := H1
           clear H1
           have H' := Aside0.mk H
           clear H
           have hnb68 := NB107_103.out
           have hnc68 := NB103_107.out
           have hcz69_0 : w15.cell? ⟨gb107,0,none⟩ = some (.int .i64 0) := (blk_cell BK107.out 0).trans rfl
           have hcz69_1 : w15.cell? ⟨gb107,1,none⟩ = some (.int .i64 0) := (blk_cell BK107.out 1).trans rfl
           have hcz69_2 : w15.cell? ⟨gb107,2,none⟩ = some (.int .i64 0) := (blk_cell BK107.out 2).trans rfl
           have hcz69_3 : w15.cell? ⟨gb107,3,none⟩ = some (.bool false) := (blk_cell BK107.out 3).trans rfl
           have hfz69_0 := blk_frozen BK107.out 0
           have hfz69_1 := blk_frozen BK107.out 1
           have hfz69_2 := blk_frozen BK107.out 2
           have hfz69_3 := blk_frozen BK107.out 3
           go_wp2_with (first | (go_at_call 30; (with_reducible refine (impl_in.calls ((rd_T60 l0_1 x20_2).f0) 0 6 false _ A18.out).mono ?_); rintro e w' ⟨rfl,⟨nd,rfl⟩⟩; (try first | exact ⟨rfl,_,World.drewN_drewN _ _ _⟩ | exact ⟨rfl,_,Eq.trans (World.drewN_drewN _ _ _) (congrArg (World.drewN _) (Nat.add_assoc _ _ _))⟩)))
           repeat (go_quiet (first | (go_at_call 30; (with_reducible refine (impl_in.calls ((rd_T60 l0_1 x20_2).f0) 0 6 false _ A18.out).mono ?_); rintro e w' ⟨rfl,⟨nd,rfl⟩⟩; (try first | exact ⟨rfl,_,World.drewN_drewN _ _ _⟩ | exact ⟨rfl,_,Eq.trans (World.drewN_drewN _ _ _) (congrArg (World.drewN _) (Nat.add_assoc _ _ _))⟩))); try go_wp2_with (first | (go_at_call 30; (with_reducible refine (impl_in.calls ((rd_T60 l0_1 x20_2).f0) 0 6 false _ A18.out).mono ?_); rintro e w' ⟨rfl,⟨nd,rfl⟩⟩; (try first | exact ⟨rfl,_,World.drewN_drewN _ _ _⟩ | exact ⟨rfl,_,Eq.trans (World.drewN_drewN _ _ _) (congrArg (World.drewN _) (Nat.add_assoc _ _ _))⟩))))
           go_meet
           case rel => exact ⟨_,(true),(by first | rfl | (simp; done) | (simp [*]; done)),H',⟨by have := HJ1.out; have := HK2.out; first | omega | exact Nat.le_refl _⟩,⟨by (with_reducible repeat (first | refine blk_drewN ?_ _ | refine blk_drew ?_ | refine blk_alloc ?_ _)); refine blk_far ?_ NB103_107.out _; (with_reducible repeat (first | refine blk_drewN ?_ _ | refine blk_drew ?_ | refine blk_alloc ?_ _)); refine blk_far ?_ NB103_107.out _; (with_reducible repeat (first | refine blk_drewN ?_ _ | refine blk_drew ?_ | refine blk_alloc ?_ _)); refine blk_far ?_ NB103_107.out _; (with_reducible repeat (first | refine blk_drewN ?_ _ | refine blk_drew ?_ | refine blk_alloc ?_ _)); refine blk_far ?_ NB103_107.out _; (with_reducible repeat (first | refine blk_drewN ?_ _ | refine blk_drew ?_ | refine blk_alloc ?_ _)); first | exact BK103.out | (simp only [*]; exact BK103.out)⟩,⟨by (with_reducible repeat (first | refine blk_drewN ?_ _ | refine blk_drew ?_ | refine blk_alloc ?_ _)); refine blk_put (cs := #[.int .i64 ((rd_T60 l0_1 x20_2).f0),.int .i64 ((rd_T60 l0_1 x20_2).f1),.int .i64 ((rd_T60 l0_1 x20_2).f2),.bool false]) ?_ 3 _ rfl; (with_reducible repeat (first | refine blk_drewN ?_ _ | refine blk_drew ?_ | refine blk_alloc ?_ _)); refine blk_put (cs := #[.int .i64 ((rd_T60 l0_1 x20_2).f0),.int .i64 ((rd_T60 l0_1 x20_2).f1),.int .i64 0,.bool false]) ?_ 2 _ rfl; (with_reducible repeat (first | refine blk_drewN ?_ _ | refine blk_drew ?_ | refine blk_alloc ?_ _)); refine blk_put (cs := #[.int .i64 ((rd_T60 l0_1 x20_2).f0),.int .i64 0,.int .i64 0,.bool false]) ?_ 1 _ rfl; (with_reducible repeat (first | refine blk_drewN ?_ _ | refine blk_drew ?_ | refine blk_alloc ?_ _)); refine blk_put (cs := #[.int .i64 0,.int .i64 0,.int .i64 0,.bool false]) ?_ 0 _ rfl; (with_reducible repeat (first | refine blk_drewN ?_ _ | refine blk_drew ?_ | refine blk_alloc ?_ _)); first | exact BK107.out | (simp only [*]; exact BK107.out)⟩,⟨by repeat (first | (with_reducible first | exact HB.out | apply below_alloc | apply pw_below_drewN | apply below_drew1 | refine below_set ?_ GE103.out | refine below_set ?_ GE107.out) | exact HB.out)⟩⟩
         case rest =>
          clear HC14
          try clear c1
          try clear p1
          try clear q1
          try clear hx1
          try clear c2
          try clear p2
          try clear c3
          try clear q3
          try clear c4
          try clear c5
          try clear q5
          try clear c6
          try clear c9
          try clear p10
          try clear q10
          try clear hx10
          try clear c11
          try clear c11b0
          try clear c12
          try clear c12b0
          try clear c13
          try clear c13b0
          try clear c16
          try clear c19
          try clear c21
          try clear c22
          try clear c22b0
          try clear c23
          try clear c23b0
          try clear c23b1
          try clear c25
          try clear c26
          try clear c26b0
          try clear c27
          try clear c27b0
          try clear c27b1
          try clear c28
          try clear q30
          try clear c31
          try clear c32
          try clear c34
          try clear q36
          try clear c37
          try clear c38
          try clear c40
          try clear c42
          try clear c44
          try clear c47
          try clear c48
          try clear c48b0
          try clear c49
          try clear c49b0
          try clear c49b1
          try clear c50
          try clear q52
          try clear c53
          try clear c54
          try clear c56
          try clear q58
          try clear c59
          try clear c60
          try clear c62
          try clear c64
          try clear c66
          try clear c68
          try clear hcz10_0
          try clear hcz10_1
          try clear hcz10_2
          try clear hcz17_0
          try clear hcz17_1
          try clear hcz17_2
          try clear hcz17_3
          try clear hcz29_0
          try clear hcz29_1
          try clear hcz29_2
          try clear hcz29_3
          try clear hcz33_0
          try clear hcz33_1
          try clear hcz33_2
          try clear hcz33_3
          try clear hcz35_0
          try clear hcz35_1
          try clear hcz35_2
          try clear hcz35_3
          try clear hcz39_0
          try clear hcz39_1
          try clear hcz39_2
          try clear hcz39_3
          try clear hcz41_0
          try clear hcz41_1
          try clear hcz41_2
          try clear hcz41_3
          try clear hcz43_0
          try clear hcz43_1
          try clear hcz43_2
          try clear hcz43_3
          try clear hcz45_0
          try clear hcz45_1
          try clear hcz45_2
          try clear hcz45_3
          try clear hcz51_0
          try clear hcz51_1
          try clear hcz51_2
          try clear hcz51_3
          try clear hcz55_0
          try clear hcz55_1
          try clear hcz55_2
          try clear hcz55_3
          try clear hcz57_0
          try clear hcz57_1
          try clear hcz57_2
          try clear hcz57_3
          try clear hcz61_0
          try clear hcz61_1
          try clear hcz61_2
          try clear hcz61_3
          try clear hcz63_0
          try clear hcz63_1
          try clear hcz63_2
          try clear hcz63_3
          try clear hcz65_0
          try clear hcz65_1
          try clear hcz65_2
          try clear hcz65_3
          try clear hcz67_0
          try clear hcz67_1
          try clear hcz67_2
          try clear hcz67_3
          try clear hcz69_0
          try clear hcz69_1
          try clear hcz69_2
          try clear hcz69_3
          try clear hcz7_0
          try clear hcz7_1
          try clear hcz7_2
          try clear hcz8_0
          try clear hcz8_1
          try clear hcz8_2
          try clear hfz10_0
          try clear hfz10_1
          try clear hfz10_2
          try clear hfz17_0
          try clear hfz17_1
          try clear hfz17_2
          try clear hfz17_3
          try clear hfz29_0
          try clear hfz29_1
          try clear hfz29_2
          try clear hfz29_3
          try clear hfz33_0
          try clear hfz33_1
          try clear hfz33_2
          try clear hfz33_3
          try clear hfz35_0
          try clear hfz35_1
          try clear hfz35_2
          try clear hfz35_3
          try clear hfz39_0
          try clear hfz39_1
          try clear hfz39_2
          try clear hfz39_3
          try clear hfz41_0
          try clear hfz41_1
          try clear hfz41_2
          try clear hfz41_3
          try clear hfz43_0
          try clear hfz43_1
          try clear hfz43_2
          try clear hfz43_3
          try clear hfz45_0
          try clear hfz45_1
          try clear hfz45_2
          try clear hfz45_3
          try clear hfz51_0
          try clear hfz51_1
          try clear hfz51_2
          try clear hfz51_3
          try clear hfz55_0
          try clear hfz55_1
          try clear hfz55_2
          try clear hfz55_3
          try clear hfz57_0
          try clear hfz57_1
          try clear hfz57_2
          try clear hfz57_3
          try clear hfz61_0
          try clear hfz61_1
          try clear hfz61_2
          try clear hfz61_3
          try clear hfz63_0
          try clear hfz63_1
          try clear hfz63_2
          try clear hfz63_3
          try clear hfz65_0
          try clear hfz65_1
          try clear hfz65_2
          try clear hfz65_3
          try clear hfz67_0
          try clear hfz67_1
          try clear hfz67_2
          try clear hfz67_3
          try clear hfz69_0
          try clear hfz69_1
          try clear hfz69_2
          try clear hfz69_3
          try clear hfz7_0
          try clear hfz7_1
          try clear hfz7_2
          try clear hfz8_0
          try clear hfz8_1
          try clear hfz8_2
          try clear hx106_0
          try clear hx106_1
          try clear hx106_2
          try clear hx106_3
          try clear p106
          try clear p2
          try clear q106
          obtain ⟨kq,x69_13,rfl,HA,HJ13,BK103,BK107,HB⟩ := hcut
          cases kq with
          | zero => exact absurd HA.out (by simp [impl_LockOk.j2])
          | succ kj13 =>
           have H := HA.out
           clear HA
           simp only [impl_LockOk.j2] at H
           by_cases c70 : x69_13 = true
           ·subst c70
            have H1 : (some false) = some r := by rw [if_pos rfl] at H; exact H
            clear H
            have H := H1
            clear H1
            obtain rfl := Option.some.inj H
            simp only [Option.some.injEq,Prod.mk.injEq] at H
            obtain ⟨rfl⟩ := H
            go_wp2
            repeat (go_quiet (fail); try go_wp2)
            go_ret
            exact ⟨by first | rfl | (simp [errW_none,errW_some] <;> rfl) | (simp [*,errW_none,errW_some] <;> rfl),by repeat (first | (with_reducible first | exact HB.out | apply below_alloc | apply pw_below_drewN | apply below_drew1 | refine below_set ?_ GE103.out | refine below_set ?_ GE107.out) | exact HB.out)⟩
           ·replace c70 := Bool.eq_false_iff.mpr c70
            subst c70
            have H1 : (if ((rd_T60 l0_1 x20_2).f3) = true then ((slices_Contains_int_int.f kj13 l0_2 x20_2).bind fun t112 => (if (((rd_T60 l0_1 x20_2).f3) != t112) = true then (some false) else (impl_LockOk.l0 kj13 (wrap64 (x3_2 + 1)) l0_1 (l0_1.length : Int) (wrap64 (x20_2 + 1)) a0_0 l0_1 l0_2))) else ((slices_Contains_int_int.f kj13 l0_2 x20_2).bind fun t113 => (if (((rd_T60 l0_1 x20_2).f3) != t113) = true then (some false) else (impl_LockOk.l0 kj13 x3_2 l0_1 (l0_1.length : Int) (wrap64 (x20_2 + 1)) a0_0 l0_1 l0_2)))) = some r := by rw [if_neg (show ¬ (false = true) by decide)] at H; exact H
            clear H
            have H := H1
            clear H1
            by_cases c71 : ((rd_T60 l0_1 x20_2).f3) = true
            ·rw [if_pos c71] at H
             have c71b0 : ((rd_T60 l0_1 x20_2).f3) = true := c71
             clear c71
             replace H := Option.bind_eq_some_iff.mp H
             obtain ⟨t112,A720,H⟩ := H
             replace H : (if (((rd_T60 l0_1 x20_2).f3) != t112) = true then (some false) else (impl_LockOk.l0 kj13 (wrap64 (x3_2 + 1)) l0_1 (l0_1.length : Int) (wrap64 (x20_2 + 1)) a0_0 l0_1 l0_2)) = some r := H
             have A72 := Aside0.mk A720
             clear A720
             by_cases c73 : (((rd_T60 l0_1 x20_2).f3) != t112) = true
             ·rw [if_pos c73] at H
              have c73b0 : (((rd_T60 l0_1 x20_2).f3) != t112) = true := c73
              (try (have c73b7 : (!t112) = true := by have e_ := c73b0; rw [c71b0] at e_; simpa using e_))
              (try (have c73b8 : t112 = true := by have e_ := c73b0; rw [c71b0] at e_; simpa using e_))
              (try (have c73b1 : decide (((rd_T60 l0_1 x20_2).f3) = t112) = false := by simpa using c73))
              (try (have c73b2 : (((rd_T60 l0_1 x20_2).f3) == t112) = false := by simpa using c73))
              (try (have c73b3 : ¬ (((rd_T60 l0_1 x20_2).f3) = t112) := by simpa using c73))
              clear c73
              obtain rfl := Option.some.inj H
              simp only [Option.some.injEq,Prod.mk.injEq] at H
              obtain ⟨rfl⟩ := H
              have hnb74 := NB107_103.out
              have hnc74 := NB103_107.out
              have hcz75_0 : wc.cell? ⟨gb107,0,none⟩ = some (.int .i64 ((rd_T60 l0_1 x20_2).f0)) := (blk_cell BK107.out 0).trans rfl
              have hcz75_1 : wc.cell? ⟨gb107,1,none⟩ = some (.int .i64 ((rd_T60 l0_1 x20_2).f1)) := (blk_cell BK107.out 1).trans rfl
              have hcz75_2 : wc.cell? ⟨gb107,2,none⟩ = some (.int .i64 ((rd_T60 l0_1 x20_2).f2)) := (blk_cell BK107.out 2).trans rfl
              have hcz75_3 : wc.cell? ⟨gb107,3,none⟩ = some (.bool ((rd_T60 l0_1 x20_2).f3)) := (blk_cell BK107.out 3).trans rfl
              have hfz75_0 := blk_frozen BK107.out 0
              have hfz75_1 := blk_frozen BK107.out 1
              have hfz75_2 := blk_frozen BK107.out 2
              have hfz75_3 := blk_frozen BK107.out 3
              have hcz76_0 : wc.cell? ⟨gb103,0,none⟩ = some (.int .i64 a0_0) := (blk_cell BK103.out 0).trans rfl
              have hcz76_1 : wc.cell? ⟨gb103,1,none⟩ = some (.slice (some ad106) l0_1.length c0_1) := (blk_cell BK103.out 1).trans rfl
              have hcz76_2 : wc.cell? ⟨gb103,2,none⟩ = some (.slice A0_2 l0_2.length c0_2) := (blk_cell BK103.out 2).trans rfl
              have hfz76_0 := blk_frozen BK103.out 0
              have hfz76_1 := blk_frozen BK103.out 1
              have hfz76_2 := blk_frozen BK103.out 2
              go_wp2_with (first | (go_at_call 33; (with_reducible refine (slices_Contains_int_int.calls kj13 _ _ l0_2 x20_2 t112 _ ?side1 ?side2 A72.out).mono ?_); (case side1 => repeat (first | exact (Kd.C_below HR0_2.out HB.out) | (with_reducible refine Kd.C_alloc ?_ _) | (with_reducible refine Kd.C_drewN ?_ _) | (with_reducible refine Kd.C_drew ?_))); (case side2 => exact HC0_2.out); rintro e w' ⟨rfl,⟨nd,rfl⟩⟩; (try first | exact ⟨rfl,_,World.drewN_drewN _ _ _⟩ | exact ⟨rfl,_,Eq.trans (World.drewN_drewN _ _ _) (congrArg (World.drewN _) (Nat.add_assoc _ _ _))⟩)))
              repeat (go_quiet (first | (go_at_call 33; (with_reducible refine (slices_Contains_int_int.calls kj13 _ _ l0_2 x20_2 t112 _ ?side1 ?side2 A72.out).mono ?_); (case side1 => repeat (first | exact (Kd.C_below HR0_2.out HB.out) | (with_reducible refine Kd.C_alloc ?_ _) | (with_reducible refine Kd.C_drewN ?_ _) | (with_reducible refine Kd.C_drew ?_))); (case side2 => exact HC0_2.out); rintro e w' ⟨rfl,⟨nd,rfl⟩⟩; (try first | exact ⟨rfl,_,World.drewN_drewN _ _ _⟩ | exact ⟨rfl,_,Eq.trans (World.drewN_drewN _ _ _) (congrArg (World.drewN _) (Nat.add_assoc _ _ _))⟩))); try go_wp2_with (first | (go_at_call 33; (with_reducible refine (slices_Contains_int_int.calls kj13 _ _ l0_2 x20_2 t112 _ ?side1 ?side2 A72.out).mono ?_); (case side1 => repeat (first | exact (Kd.C_below HR0_2.out HB.out) | (with_reducible refine Kd.C_alloc ?_ _) | (with_reducible refine Kd.C_drewN ?_ _) | (with_reducible refine Kd.C_drew ?_))); (case side2 => exact HC0_2.out); rintro e w' ⟨rfl,⟨nd,rfl⟩⟩; (try first | exact ⟨rfl,_,World.drewN_drewN _ _ _⟩ | exact ⟨rfl,_,Eq.trans (World.drewN_drewN _ _ _) (congrArg (World.drewN _) (Nat.add_assoc _ _ _))⟩))))
              go_ret
              exact ⟨by first | rfl | (simp [errW_none,errW_some] <;> rfl) | (simp [*,errW_none,errW_some] <;> rfl),by repeat (first | (with_reducible first | exact HB.out | apply below_alloc | apply pw_below_drewN | apply below_drew1 | refine below_set ?_ GE103.out | refine below_set ?_ GE107.out) | exact HB.out)⟩
             ·rw [if_neg c73] at H
              have c73b0 : (((rd_T60 l0_1 x20_2).f3) != t112) = false := by simpa using c73
              (try (have c73b7 : (!t112) = false := by have e_ := c73b0; rw [c71b0] at e_; simpa using e_))
              (try (have c73b8 : t112 = false := by have e_ := c73b0; rw [c71b0] at e_; simpa using e_))
              (try (have c73b1 : decide (((rd_T60 l0_1 x20_2).f3) = t112) = true := by simpa using c73))
              (try (have c73b2 : (((rd_T60 l0_1 x20_2).f3) == t112) = true := by simpa using c73))
              clear c73
              have H' := Aside0.mk H
              clear H
              have hnb77 := NB107_103.out
              have hnc77 := NB103_107.out
              have hcz78_0 : wc.cell? ⟨gb107,0,none⟩ = some (.int .i64 ((rd_T60 l0_1 x20_2).f0)) := (blk_cell BK107.out 0).trans rfl
              have hcz78_1 : wc.cell? ⟨gb107,1,none⟩ = some (.int .i64 ((rd_T60 l0_1 x20_2).f1)) := (blk_cell BK107.out 1).trans rfl
              have hcz78_2 : wc.cell? ⟨gb107,2,none⟩ = some (.int .i64 ((rd_T60 l0_1 x20_2).f2)) := (blk_cell BK107.out 2).trans rfl
              have hcz78_3 : wc.cell? ⟨gb107,3,none⟩ = some (.bool ((rd_T60 l0_1 x20_2).f3)) := (blk_cell BK107.out 3).trans rfl
              have hfz78_0 := blk_frozen BK107.out 0
              have hfz78_1 := blk_frozen BK107.out 1
              have hfz78_2 := blk_frozen BK107.out 2
              have hfz78_3 := blk_frozen BK107.out 3
              have hcz79_0 : wc.cell? ⟨gb103,0,none⟩ = some (.int .i64 a0_0) := (blk_cell BK103.out 0).trans rfl
              have hcz79_1 : wc.cell? ⟨gb103,1,none⟩ = some (.slice (some ad106) l0_1.length c0_1) := (blk_cell BK103.out 1).trans rfl
              have hcz79_2 : wc.cell? ⟨gb103,2,none⟩ = some (.slice A0_2 l0_2.length c0_2) := (blk_cell BK103.out 2).trans rfl
              have hfz79_0 := blk_frozen BK103.out 0
              have hfz79_1 := blk_frozen BK103.out 1
              have hfz79_2 := blk_frozen BK103.out 2
              go_wp2_with (first | (go_at_call 33; (with_reducible refine (slices_Contains_int_int.calls kj13 _ _ l0_2 x20_2 t112 _ ?side1 ?side2 A72.out).mono ?_); (case side1 => repeat (first | exact (Kd.C_below HR0_2.out HB.out) | (with_reducible refine Kd.C_alloc ?_ _) | (with_reducible refine Kd.C_drewN ?_ _) | (with_reducible refine Kd.C_drew ?_))); (case side2 => exact HC0_2.out); rintro e w' ⟨rfl,⟨nd,rfl⟩⟩; (try first | exact ⟨rfl,_,World.drewN_drewN _ _ _⟩ | exact ⟨rfl,_,Eq.trans (World.drewN_drewN _ _ _) (congrArg (World.drewN _) (Nat.add_assoc _ _ _))⟩)))
              repeat (go_quiet (first | (go_at_call 33; (with_reducible refine (slices_Contains_int_int.calls kj13 _ _ l0_2 x20_2 t112 _ ?side1 ?side2 A72.out).mono ?_); (case side1 => repeat (first | exact (Kd.C_below HR0_2.out HB.out) | (with_reducible refine Kd.C_alloc ?_ _) | (with_reducible refine Kd.C_drewN ?_ _) | (with_reducible refine Kd.C_drew ?_))); (case side2 => exact HC0_2.out); rintro e w' ⟨rfl,⟨nd,rfl⟩⟩; (try first | exact ⟨rfl,_,World.drewN_drewN _ _ _⟩ | exact ⟨rfl,_,Eq.trans (World.drewN_drewN _ _ _) (congrArg (World.drewN _) (Nat.add_assoc _ _ _))⟩))); try go_wp2_with (first | (go_at_call 33; (with_reducible refine (slices_Contains_int_int.calls kj13 _ _ l0_2 x20_2 t112 _ ?side1 ?side2 A72.out).mono ?_); (case side1 => repeat (first | exact (Kd.C_below HR0_2.out HB.out) | (with_reducible refine Kd.C_alloc ?_ _) | (with_reducible refine Kd.C_drewN ?_ _) | (with_reducible refine Kd.C_drew ?_))); (case side2 => exact HC0_2.out); rintro e w' ⟨rfl,⟨nd,rfl⟩⟩; (try first | exact ⟨rfl,_,World.drewN_drewN _ _ _⟩ | exact ⟨rfl,_,Eq.trans (World.drewN_drewN _ _ _) (congrArg (World.drewN _) (Nat.add_assoc _ _ _))⟩))))
              go_roundg kj13
              case measure => have := HJ1.out; have := HK2.out; have := HJ13.out; omega
              case rel => exact ⟨(wrap64 (x3_2 + 1)),(wrap64 (x20_2 + 1)),(by first | rfl | (simp; done) | (simp [*]; done)),(by first | rfl | (simp; done) | (simp [*]; done)),H',⟨by have := HJ1.out; have := HK2.out; have := HJ13.out; omega⟩,⟨by (with_reducible repeat (first | refine blk_drewN ?_ _ | refine blk_drew ?_ | refine blk_alloc ?_ _)); first | exact BK103.out | (simp only [*]; exact BK103.out)⟩,⟨by repeat (first | (with_reducible first | exact HB.out | apply below_alloc | apply pw_below_drewN | apply below_drew1 | refine below_set ?_ GE103.out | refine below_set ?_ GE107.out) | exact HB.out)⟩⟩
            ·rw [if_neg c71] at H
             have c71b0 : ((rd_T60 l0_1 x20_2).f3) = false := by simpa using c71
             clear c71
             replace H := Option.bind_eq_some_iff.mp H
             obtain ⟨t113,A800,H⟩ := H
             replace H : (if (((rd_T60 l0_1 x20_2).f3) != t113) = true then (some false) else (impl_LockOk.l0 kj13 x3_2 l0_1 (l0_1.length : Int) (wrap64 (x20_2 + 1)) a0_0 l0_1 l0_2)) = some r := H
             have A80 := Aside0.mk A800
             clear A800
             by_cases c81 : (((rd_T60 l0_1 x20_2).f3) != t113) = true
             ·rw [if_pos c81] at H
              have c81b0 : (((rd_T60 l0_1 x20_2).f3) != t113) = true := c81
              (try (have c81b7 : (!t113) = true := by have e_ := c81b0; rw [c71b0] at e_; simpa using e_))
              (try (have c81b8 : t113 = true := by have e_ := c81b0; rw [c71b0] at e_; simpa using e_))
              (try (have c81b1 : decide (((rd_T60 l0_1 x20_2).f3) = t113) = false := by simpa using c81))
              (try (have c81b2 : (((rd_T60 l0_1 x20_2).f3) == t113) = false := by simpa using c81))
              (try (have c81b3 : ¬ (((rd_T60 l0_1 x20_2).f3) = t113) := by simpa using c81))
              clear c81
              obtain rfl := Option.some.inj H
              simp only [Option.some.injEq,Prod.mk.injEq] at H
              obtain ⟨rfl⟩ := H
              have hnb82 := NB107_103.out
              have hnc82 := NB103_107.out
              have hcz83_0 : wc.cell? ⟨gb107,0,none⟩ = some (.int .i64 ((rd_T60 l0_1 x20_2).f0)) := (blk_cell BK107.out 0).trans rfl
              have hcz83_1 : wc.cell? ⟨gb107,1,none⟩ = some (.int .i64 ((rd_T60 l0_1 x20_2).f1)) := (blk_cell BK107.out 1).trans rfl
              have hcz83_2 : wc.cell? ⟨gb107,2,none⟩ = some (.int .i64 ((rd_T60 l0_1 x20_2).f2)) := (blk_cell BK107.out 2).trans rfl
              have hcz83_3 : wc.cell? ⟨gb107,3,none⟩ = some (.bool ((rd_T60 l0_1 x20_2).f3)) := (blk_cell BK107.out 3).trans rfl
              have hfz83_0 := blk_frozen BK107.out 0
              have hfz83_1 := blk_frozen BK107.out 1
              have hfz83_2 := blk_frozen BK107.out 2
              have hfz83_3 := blk_frozen BK107.out 3
              have hcz84_0 : wc.cell? ⟨gb103,0,none⟩ = some (.int .i64 a0_0) := (blk_cell BK103.out 0).trans rfl
              have hcz84_1 : wc.cell? ⟨gb103,1,none⟩ = some (.slice (some ad106) l0_1.length c0_1) := (blk_cell BK103.out 1).trans rfl
              have hcz84_2 : wc.cell? ⟨gb103,2,none⟩ = some (.slice A0_2 l0_2.length c0_2) := (blk_cell BK103.out 2).trans rfl
              have hfz84_0 := blk_frozen BK103.out 0
              have hfz84_1 := blk_frozen BK103.out 1
              have hfz84_2 := blk_frozen BK103.out 2
              go_wp2_with (first | (go_at_call 33; (with_reducible refine (slices_Contains_int_int.calls kj13 _ _ l0_2 x20_2 t113 _ ?side1 ?side2 A80.out).mono ?_); (case side1 => repeat (first | exact (Kd.C_below HR0_2.out HB.out) | (with_reducible refine Kd.C_alloc ?_ _) | (with_reducible refine Kd.C_drewN ?_ _) | (with_reducible refine Kd.C_drew ?_))); (case side2 => exact HC0_2.out); rintro e w' ⟨rfl,⟨nd,rfl⟩⟩; (try first | exact ⟨rfl,_,World.drewN_drewN _ _ _⟩ | exact ⟨rfl,_,Eq.trans (World.drewN_drewN _ _ _) (congrArg (World.drewN _) (Nat.add_assoc _ _ _))⟩)))
              repeat (go_quiet (first | (go_at_call 33; (with_reducible refine (slices_Contains_int_int.calls kj13 _ _ l0_2 x20_2 t113 _ ?side1 ?side2 A80.out).mono ?_); (case side1 => repeat (first | exact (Kd.C_below HR0_2.out HB.out) | (with_reducible refine Kd.C_alloc ?_ _) | (with_reducible refine Kd.C_drewN ?_ _) | (with_reducible refine Kd.C_drew ?_))); (case side2 => exact HC0_2.out); rintro e w' ⟨rfl,⟨nd,rfl⟩⟩; (try first | exact ⟨rfl,_,World.drewN_drewN _ _ _⟩ | exact ⟨rfl,_,Eq.trans (World.drewN_drewN _ _ _) (congrArg (World.drewN _) (Nat.add_assoc _ _ _))⟩))); try go_wp2_with (first | (go_at_call 33; (with_reducible refine (slices_Contains_int_int.calls kj13 _ _ l0_2 x20_2 t113 _ ?side1 ?side2 A80.out).mono ?_); (case side1 => repeat (first | exact (Kd.C_below HR0_2.out HB.out) | (with_reducible refine Kd.C_alloc ?_ _) | (with_reducible refine Kd.C_drewN ?_ _) | (with_reducible refine Kd.C_drew ?_))); (case side2 => exact HC0_2.out); rintro e w' ⟨rfl,⟨nd,rfl⟩⟩; (try first | exact ⟨rfl,_,World.drewN_drewN _ _ _⟩ | exact ⟨rfl,_,Eq.trans (World.drewN_drewN _ _ _) (congrArg (World.drewN _) (Nat.add_assoc _ _ _))⟩))))
              go_ret
              exact ⟨by first | rfl | (simp [errW_none,errW_some] <;> rfl) | (simp [*,errW_none,errW_some] <;> rfl),by repeat (first | (with_reducible first | exact HB.out | apply below_alloc | apply pw_below_drewN | apply below_drew1 | refine below_set ?_ GE103.out | refine below_set ?_ GE107.out) | exact HB.out)⟩
             ·rw [if_neg c81] at H
              have c81b0 : (((rd_T60 l0_1 x20_2).f3) != t113) = false := by simpa using c81
              (try (have c81b7 : (!t113) = false := by have e_ := c81b0; rw [c71b0] at e_; simpa using e_))
              (try (have c81b8 : t113 = false := by have e_ := c81b0; rw [c71b0] at e_; simpa using e_))
              (try (have c81b1 : decide (((rd_T60 l0_1 x20_2).f3) = t113) = true := by simpa using c81))
              (try (have c81b2 : (((rd_T60 l0_1 x20_2).f3) == t113) = true := by simpa using c81))
              clear c81
              have H' := Aside0.mk H
              clear H
              have hnb85 := NB107_103.out
              have hnc85 := NB103_107.out
              have hcz86_0 : wc.cell? ⟨gb107,0,none⟩ = some (.int .i64 ((rd_T60 l0_1 x20_2).f0)) := (blk_cell BK107.out 0).trans rfl
              have hcz86_1 : wc.cell? ⟨gb107,1,none⟩ = some (.int .i64 ((rd_T60 l0_1 x20_2).f1)) := (blk_cell BK107.out 1).trans rfl
              have hcz86_2 : wc.cell? ⟨gb107,2,none⟩ = some (.int .i64 ((rd_T60 l0_1 x20_2).f2)) := (blk_cell BK107.out 2).trans rfl
              have hcz86_3 : wc.cell? ⟨gb107,3,none⟩ = some (.bool ((rd_T60 l0_1 x20_2).f3)) := (blk_cell BK107.out 3).trans rfl
              have hfz86_0 := blk_frozen BK107.out 0
              have hfz86_1 := blk_frozen BK107.out 1
              have hfz86_2 := blk_frozen BK107.out 2
              have hfz86_3 := blk_frozen BK107.out 3
              have hcz87_0 : wc.cell? ⟨gb103,0,none⟩ = some (.int .i64 a0_0) := (blk_cell BK103.out 0).trans rfl
              have hcz87_1 : wc.cell? ⟨gb103,1,none⟩ = some (.slice (some ad106) l0_1.length c0_1) := (blk_cell BK103.out 1).trans rfl
              have hcz87_2 : wc.cell? ⟨gb103,2,none⟩ = some (.slice A0_2 l0_2.length c0_2) := (blk_cell BK103.out 2).trans rfl
              have hfz87_0 := blk_frozen BK103.out 0
              have hfz87_1 := blk_frozen BK103.out 1
              have hfz87_2 := blk_frozen BK103.out 2
              go_wp2_with (first | (go_at_call 33; (with_reducible refine (slices_Contains_int_int.calls kj13 _ _ l0_2 x20_2 t113 _ ?side1 ?side2 A80.out).mono ?_); (case side1 => repeat (first | exact (Kd.C_below HR0_2.out HB.out) | (with_reducible refine Kd.C_alloc ?_ _) | (with_reducible refine Kd.C_drewN ?_ _) | (with_reducible refine Kd.C_drew ?_))); (case side2 => exact HC0_2.out); rintro e w' ⟨rfl,⟨nd,rfl⟩⟩; (try first | exact ⟨rfl,_,World.drewN_drewN _ _ _⟩ | exact ⟨rfl,_,Eq.trans (World.drewN_drewN _ _ _) (congrArg (World.drewN _) (Nat.add_assoc _ _ _))⟩)))
              repeat (go_quiet (first | (go_at_call 33; (with_reducible refine (slices_Contains_int_int.calls kj13 _ _ l0_2 x20_2 t113 _ ?side1 ?side2 A80.out).mono ?_); (case side1 => repeat (first | exact (Kd.C_below HR0_2.out HB.out) | (with_reducible refine Kd.C_alloc ?_ _) | (with_reducible refine Kd.C_drewN ?_ _) | (with_reducible refine Kd.C_drew ?_))); (case side2 => exact HC0_2.out); rintro e w' ⟨rfl,⟨nd,rfl⟩⟩; (try first | exact ⟨rfl,_,World.drewN_drewN _ _ _⟩ | exact ⟨rfl,_,Eq.trans (World.drewN_drewN _ _ _) (congrArg (World.drewN _) (Nat.add_assoc _ _ _))⟩))); try go_wp2_with (first | (go_at_call 33; (with_reducible refine (slices_Contains_int_int.calls kj13 _ _ l0_2 x20_2 t113 _ ?side1 ?side2 A80.out).mono ?_); (case side1 => repeat (first | exact (Kd.C_below HR0_2.out HB.out) | (with_reducible refine Kd.C_alloc ?_ _) | (with_reducible refine Kd.C_drewN ?_ _) | (with_reducible refine Kd.C_drew ?_))); (case side2 => exact HC0_2.out); rintro e w' ⟨rfl,⟨nd,rfl⟩⟩; (try first | exact ⟨rfl,_,World.drewN_drewN _ _ _⟩ | exact ⟨rfl,_,Eq.trans (World.drewN_drewN _ _ _) (congrArg (World.drewN _) (Nat.add_assoc _ _ _))⟩))))
              go_roundg kj13
              case measure => have := HJ1.out; have := HK2.out; have := HJ13.out; omega
              case rel => exact ⟨(x3_2),(wrap64 (x20_2 + 1)),(by first | rfl | (simp; done) | (simp [*]; done)),(by first | rfl | (simp; done) | (simp [*]; done)),H',⟨by have := HJ1.out; have := HK2.out; have := HJ13.out; omega⟩,⟨by (with_reducible repeat (first | refine blk_drewN ?_ _ | refine blk_drew ?_ | refine blk_alloc ?_ _)); first | exact BK103.out | (simp only [*]; exact BK103.out)⟩,⟨by repeat (first | (with_reducible first | exact HB.out | apply below_alloc | apply pw_below_drewN | apply below_drew1 | refine below_set ?_ GE103.out | refine below_set ?_ GE107.out) | exact HB.out)⟩⟩
        ·rw [if_neg c13] at H
         exact absurd H (by simp)
       ·rw [if_neg c12] at H
        exact absurd H (by simp)
      ·rw [if_neg c11] at H
       have c11b0 : decide (x20_2 < (l0_1.length : Int)) = false := decide_eq_false c11
       clear c11
       obtain rfl := Option.some.inj H
       simp only [Option.some.injEq,Prod.mk.injEq] at H
       obtain ⟨rfl⟩ := H
       have hcz88_0 : wr.cell? ⟨gb103,0,none⟩ = some (.int .i64 a0_0) := (blk_cell BK103.out 0).trans rfl
       have hcz88_1 : wr.cell? ⟨gb103,1,none⟩ = some (.slice A0_1 l0_1.length c0_1) := (blk_cell BK103.out 1).trans rfl
       have hcz88_2 : wr.cell? ⟨gb103,2,none⟩ = some (.slice A0_2 l0_2.length c0_2) := (blk_cell BK103.out 2).trans rfl
       have hfz88_0 := blk_frozen BK103.out 0
       have hfz88_1 := blk_frozen BK103.out 1
       have hfz88_2 := blk_frozen BK103.out 2
       go_wp2
       repeat (go_quiet (fail); try go_wp2)
       go_ret
       exact ⟨by first | rfl | (simp [errW_none,errW_some] <;> rfl) | (simp [*,errW_none,errW_some] <;> rfl),by repeat (first | (with_reducible first | exact HB.out | apply below_alloc | apply pw_below_drewN | apply below_drew1 | refine below_set ?_ GE103.out) | exact HB.out)⟩

end Go.Proofs.Ytecniihieninjaa.XFnExactLockOk
