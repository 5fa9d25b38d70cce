-- Written by the kit's printer at the call of wip/tools/xprint.sh (this session's knobs and contracts). Not trusted: Lean checks it.
import Derived.Test.YtjajfbgijailmaaXFnQueueNextx0
import Derived.Test.YtjajfbgijailmaaXFnQueueNextx3
import Derived.Test.YtjajfbgijailmaaXFnQueueNextx5
import Derived.Test.YtjajfbgijailmaaXFnQueueNextx9
namespace Go.Proofs.Ytjajfbgijailmaa.XFnQueueNext
open Go.RowKit Go.Proofs.YtjajfbgijailmaaW.PrintWords Go.Proofs.YtjajfbgijailmaaW.PrintLast Go.Proofs.YtjajfbgijailmaaW.PrintMore
attribute [local go_sem] max2_int min2_int max_two min_two max_three min_three max_four min_four   -- for this text's walks alone
set_option linter.unusedVariables false
set_option linter.unusedSimpArgs false

/-! ### spec_DrawQueueNext: function 16 -/
def spec_DrawQueueNext.f (k : Nat) (l0 : List Int) : Option ((List (S37)) × Int) := (spec_l6Open.f l0).bind fun bt238 => ((spec_l92Queue.f k bt238.1 bt238.2).bind fun bt241 => (some (bt241.1,bt241.2.1)))
theorem spec_DrawQueueNext.mono : ∀ a0 k,LeO (spec_DrawQueueNext.f k a0) (spec_DrawQueueNext.f (k + 1) a0) := by
 intro a0 k
 unfold spec_DrawQueueNext.f
 repeat' first
   | (with_reducible exact spec_l92Queue.mono _ _ _)
   | (with_reducible exact LeO.refl _)
   | (with_reducible exact LeO.none _)
   | (with_reducible refine LeO.ite ?_ ?_)
   | (with_reducible refine LeO.bind ?_ (fun _ => ?_))
   | exact spec_l92Queue.mono _ _ _
   | exact LeO.none _
   | refine LeO.ite ?_ ?_
   | refine LeO.bind ?_ (fun _ => ?_)
set_option maxHeartbeats 8000000 in
set_option maxRecDepth 100000 in
theorem spec_DrawQueueNext.calls (k : Nat) (A0 : Option Addr) (c0 : Nat) (l0 : List Int) (r1 : List (S37)) (r2 : Int) (w : World) (hr0 : Kd.C (Kd.int .u8) w A0 l0.length l0) (hc0 : l0.length ≤ c0) (h : spec_DrawQueueNext.f k l0 = some (r1,r2)) :
  Calls Try.prog 16 #[.slice A0 l0.length c0] w fun e w' => ∃ v0_ : Value,e = .returned (.agg #[v0_,.int .i64 r2]) ∧ Kd.R k37 37 w' w.heap.size (fun _ => True) v0_ r1 ∧ Below w.heap.size w w' := by
 have hu29 := Try.underlying29;have HR0 := Aside0.mk hr0;have HC0 := Aside0.mk hc0;clear hr0 hc0;have HB := Aside0.mk (Below.refl w.heap.size w);have H : ((spec_l6Open.f l0).bind fun bt238 => ((spec_l92Queue.f k bt238.1 bt238.2).bind fun bt241 => (some (bt241.1,bt241.2.1)))) = some (r1,r2) := h;clear h
 go_enter Try.func16,Try.ntmps16
 go_upto_region 1 with (first | ((with_reducible refine gate_dst (N := 2) rfl ?_); refine box_event ?hg (N := 2) ?hd (cs := #[.slice none 0 0,.int .i64 0]) (t := 29) ?hr ?_; (case hd => rfl); (case hg => rfl); (case hr => first | (go_simp; done) | (go_simp; rfl)); intro gb237 hg w2 hbox hb; have n0_ := Aside0.mk (below_step (by repeat (first | (with_reducible first | exact HB.out | apply below_alloc | apply pw_below_drewN | apply below_drew1) | exact HB.out)) hb); have n1_ := Aside0.mk (hbox); have n2_ := Aside0.mk ((by rw [hg]; exact (below_size (by repeat (first | (with_reducible first | exact HB.out | apply below_alloc | apply pw_below_drewN | apply below_drew1) | exact HB.out))) : w.heap.size ≤ gb237)); have n3_ := Aside0.mk ((by rw [hg]; exact (below_size (by repeat (first | (with_reducible first | exact HB.out | apply below_alloc | apply pw_below_drewN | apply below_drew1) | exact HB.out))) : w.heap.size ≤ gb237)); clear HB; have HB := n0_; have BK237 := n1_; have GW237 := n2_; have GE237 := n3_; clear n0_ n1_ n2_ n3_; clear hb hbox hg))
 (try simp only [Act.put,List.setIfInBounds_toArray,List.set_cons_zero,List.set_cons_succ]);replace H := Option.bind_eq_some_iff.mp H;obtain ⟨⟨t238,t239⟩,A30,H⟩ := H;replace H : ((spec_l92Queue.f k t238 t239).bind fun bt241 => (some (bt241.1,bt241.2.1))) = some (r1,r2) := H;have A3 := Aside0.mk A30;clear A30;replace H := Option.bind_eq_some_iff.mp H;obtain ⟨⟨t241,t244,t245⟩,A40,H⟩ := H;replace H : (some (t241,t244)) = some (r1,r2) := H;have A4 := Aside0.mk A40;clear A40
 simp only [Option.some.injEq,Prod.mk.injEq] at H
 obtain ⟨rfl,rfl⟩ := H
 go_wp2_with (first | ((with_reducible refine gate_callee (f := 39) rfl ?_); refine goesL_ (some 5) rfl rfl Try.func39 (by kernel_rfl) rfl #[.slice A0 l0.length c0] rfl (by (try simp only [List.map_toArray,List.map_cons,List.map_nil]); first | done | rfl | (simp only [List.length_drop,List.length_take]; rfl)) ?_; (with_reducible refine (spec_l6Open.calls _ _ l0 t238 t239 w _ ?side1 ?side2 ?side3 A3.out).mono ?_); (case side1 => repeat (first | (with_reducible first | exact HB.out | apply below_alloc | apply pw_below_drewN | apply below_drew1 | refine below_set ?_ GE237.out) | exact HB.out)); (case side2 => exact HR0.out); (case side3 => exact HC0.out); rintro e w5 ⟨g240,rfl,hi,hb,hb2⟩; refine ⟨_,rfl,?_⟩; have n0_ := Aside0.mk (blk_below (g := gb237) (o := .cells #[.slice none 0 0,.int .i64 0] 29 (0,0)) (by (with_reducible repeat (first | refine blk_drewN ?_ _ | refine blk_drew ?_ | refine blk_alloc ?_ _)); exact BK237.out) hb2); have n1_ := Aside0.mk (hb); have n2_ := Aside0.mk (hi); have n3_ := Aside0.mk (IsS94.ne_blk hi (blk_below (g := gb237) (o := .cells #[.slice none 0 0,.int .i64 0] 29 (0,0)) (by (with_reducible repeat (first | refine blk_drewN ?_ _ | refine blk_drew ?_ | refine blk_alloc ?_ _)); exact BK237.out) hb2) (by decide)); have n4_ := Aside0.mk (Ne.symm (IsS94.ne_blk hi (blk_below (g := gb237) (o := .cells #[.slice none 0 0,.int .i64 0] 29 (0,0)) (by (with_reducible repeat (first | refine blk_drewN ?_ _ | refine blk_drew ?_ | refine blk_alloc ?_ _)); exact BK237.out) hb2) (by decide))); clear BK237; clear HB; have BK237 := n0_; have HB := n1_; have HI240 := n2_; have NB240_237 := n3_; have NB237_240 := n4_; clear n0_ n1_ n2_ n3_ n4_; (try clear hb); (try clear hb2); (try clear hk); (try clear hi)) | ((with_reducible refine gate_callee (f := 40) rfl ?_); refine goesL_ (some 7) rfl rfl Try.func40 (by kernel_rfl) rfl #[.pointer (some ⟨g240,0,none⟩)] rfl (by (try simp only [List.map_toArray,List.map_cons,List.map_nil]); first | done | rfl | (simp only [List.length_drop,List.length_take]; rfl)) ?_; (with_reducible refine (spec_l92Queue.calls k g240 t238 t239 t241 t244 t245 w _ ?side1 ?side2 A4.out).mono ?_); (case side1 => repeat (first | (with_reducible first | exact HI240.out | apply IsS94.alloc | apply IsS94.drewN | apply IsS94.drew | apply IsS94.set_1 | refine IsS94.far ?_ NB240_237.out _) | exact HI240.out)); (case side2 => repeat (first | (with_reducible first | exact HB.out | apply below_alloc | apply pw_below_drewN | apply below_drew1 | refine below_set ?_ (IsS94.ge HI240.out) | refine below_set ?_ GE237.out) | exact HB.out)); rintro e w6 ⟨v242,rfl,ho0,hi,hb,hk⟩; refine ⟨_,rfl,?_⟩; have n0_ := Aside0.mk (KeepBut.blk hk (g' := gb237) (o := .cells #[.slice none 0 0,.int .i64 0] 29 (0,0)) (by (with_reducible repeat (first | refine blk_drewN ?_ _ | refine blk_drew ?_ | refine blk_alloc ?_ _)); exact BK237.out) NB237_240.out (by simp)); have n1_ := Aside0.mk (Kd.R_lower ho0 (below_size (by repeat (first | (with_reducible first | exact HB.out | apply below_alloc | apply pw_below_drewN | apply below_drew1 | refine below_set ?_ (IsS94.ge HI240.out) | refine below_set ?_ GE237.out) | exact HB.out)))); have n2_ := Aside0.mk (hb); have n3_ := Aside0.mk (hi); clear BK237; clear HB; clear HI240; have BK237 := n0_; have HO243 := n1_; have HB := n2_; have HI240 := n3_; clear n0_ n1_ n2_ n3_; (try clear hb); (try clear hb2); (try clear hk); (try clear hi); (try clear ho0); obtain ⟨Ao7,co7,eo7⟩ := Kd.R_slice HO243.out; subst eo7; have hnb8 := NB237_240.out; have hnc8 := NB240_237.out; have hcz9 := pk2 BK237.out))
 refine bodyPost_ret (results_cell_row rfl _ _ gb237 29 #[.slice Ao7 t241.length co7,.int .i64 t244] (0,0) _ rfl (by (with_reducible repeat (first | refine blk_drewN ?_ _ | refine blk_drew ?_ | refine blk_alloc ?_ _)); refine blk_put (cs := #[.slice Ao7 t241.length co7,.int .i64 0]) ?_ 1 _ rfl; (with_reducible repeat (first | refine blk_drewN ?_ _ | refine blk_drew ?_ | refine blk_alloc ?_ _)); refine blk_put (cs := #[.slice none 0 0,.int .i64 0]) ?_ 0 _ rfl; (with_reducible repeat (first | refine blk_drewN ?_ _ | refine blk_drew ?_ | refine blk_alloc ?_ _)); exact BK237.out) Try.underlying29 rfl (by kernel_rfl)) rfl ?_
 exact ⟨_,by first | rfl | (simp [errW_none,errW_some] <;> rfl) | (simp [*,errW_none,errW_some] <;> rfl),by (with_reducible repeat (first | apply Kd.R_alloc | apply Kd.R_drewN | apply Kd.R_drew)); exact Kd.R_mono (Kd.R_far (p := ⟨gb237,1,none⟩) (Kd.R_far (p := ⟨gb237,0,none⟩) (Kd.R_types HO243.out BK237.out (by decide)) (fun _ hk => hk.2) (.slice Ao7 t241.length co7)) (fun _ hk => hk.2) (.int .i64 t244)) (fun _ hk => trivial),by repeat (first | (with_reducible first | exact HB.out | apply below_alloc | apply pw_below_drewN | apply below_drew1 | refine below_set ?_ (IsS94.ge HI240.out) | refine below_set ?_ GE237.out) | exact HB.out)⟩

/-! ### laws_FnQueueNext: function 5 -/
mutual
def laws_FnQueueNext.j0 : Nat → Int → Bool → Bool → List (S37) → Int → Option (Bool)
 | 0,_,_,_,_,_ => none
 | k + 1,x4,x6,x28,x251000,x251001 => if x28 = true then (some x6) else (laws_FnQueueNext.l0 k x4 (-1) 0 x251000 x251001)
def laws_FnQueueNext.l0 : Nat → Int → Int → Int → List (S37) → Int → Option (Bool)
 | 0,_,_,_,_,_ => none
 | k + 1,x4,x7,x8,x251000,x251001 => if x8 < (x251000.length : Int) then (if 0 ≤ x8 then (if ((rd_T37 x251000 x8).f0) = x4 then (if (rd_T37 x251000 x8).f3 = true then (laws_FnQueueNext.l0 k x4 ((rd_T37 x251000 x8).f2) (wrap64 (x8 + 1)) x251000 x251001) else (laws_FnQueueNext.l0 k x4 x7 (wrap64 (x8 + 1)) x251000 x251001)) else (laws_FnQueueNext.l0 k x4 x7 (wrap64 (x8 + 1)) x251000 x251001)) else (none)) else (laws_FnQueueNext.l1 k x7 0 x251000 x251001)
def laws_FnQueueNext.l1 : Nat → Int → Int → List (S37) → Int → Option (Bool)
 | 0,_,_,_,_ => none
 | k + 1,x7,x9,x251000,x251001 => if x9 < (x251000.length : Int) then (if 0 ≤ x9 then (if (rd_T37 x251000 x9).f3 = true then (if ((rd_T37 x251000 x9).f2) < x7 then (some false) else (laws_FnQueueNext.l1 k x7 (wrap64 (x9 + 1)) x251000 x251001)) else (laws_FnQueueNext.l1 k x7 (wrap64 (x9 + 1)) x251000 x251001)) else (none)) else (some (decide (x7 ≥ 0)))
end
def laws_FnQueueNext.f (k : Nat) (l0 : List Int) : Option (Bool) := if (l0.length : Int) > 1048576 then (some true) else ((spec_DrawQueueNext.f k l0).bind fun bt246 => ((impl_QueueNext.f k bt246.1 bt246.2).bind fun t251 => ((spec_QueueNext.f k bt246.1 bt246.2).bind fun t252 => (if t251 = t252 then (laws_FnQueueNext.j0 k t251 (t251 == t252) (!(decide (t251 ≥ 0))) bt246.1 bt246.2) else (laws_FnQueueNext.j0 k t251 (t251 == t252) true bt246.1 bt246.2)))))
theorem laws_FnQueueNext.mono_l : ∀ k,(∀ y0 y1 y2 y3 y4,LeO (laws_FnQueueNext.j0 k y0 y1 y2 y3 y4) (laws_FnQueueNext.j0 (k + 1) y0 y1 y2 y3 y4)) ∧ (∀ y0 y1 y2 y3 y4,LeO (laws_FnQueueNext.l0 k y0 y1 y2 y3 y4) (laws_FnQueueNext.l0 (k + 1) y0 y1 y2 y3 y4)) ∧ (∀ y0 y1 y2 y3,LeO (laws_FnQueueNext.l1 k y0 y1 y2 y3) (laws_FnQueueNext.l1 (k + 1) y0 y1 y2 y3))
 | 0 => ⟨fun _ _ _ _ _ r h => by simp [laws_FnQueueNext.j0] at h,fun _ _ _ _ _ r h => by simp [laws_FnQueueNext.l0] at h,fun _ _ _ _ r h => by simp [laws_FnQueueNext.l1] at h⟩
 | k + 1 => by
  obtain ⟨ih0,ih1,ih2⟩ := laws_FnQueueNext.mono_l k
  refine ⟨?_,?_,?_⟩
  ·intro y0 y1 y2 y3 y4
   unfold laws_FnQueueNext.j0
   repeat' first
   | (with_reducible exact ih0 _ _ _ _ _)
   | (with_reducible exact ih1 _ _ _ _ _)
   | (with_reducible exact ih2 _ _ _ _)
   | (with_reducible exact impl_QueueNext.mono _ _ _)
   | (with_reducible exact spec_DrawQueueNext.mono _ _)
   | (with_reducible exact spec_QueueNext.mono _ _ _)
   | (with_reducible exact LeO.refl _)
   | (with_reducible exact LeO.none _)
   | (with_reducible refine LeO.ite ?_ ?_)
   | (with_reducible refine LeO.bind ?_ (fun _ => ?_))
   | exact ih0 _ _ _ _ _
   | exact ih1 _ _ _ _ _
   | exact ih2 _ _ _ _
   | exact impl_QueueNext.mono _ _ _
   | exact spec_DrawQueueNext.mono _ _
   | exact spec_QueueNext.mono _ _ _
   | exact LeO.none _
   | refine LeO.ite ?_ ?_
   | refine LeO.bind ?_ (fun _ => ?_)
  ·intro y0 y1 y2 y3 y4
   unfold laws_FnQueueNext.l0
   repeat' first
   | (with_reducible exact ih0 _ _ _ _ _)
   | (with_reducible exact ih1 _ _ _ _ _)
   | (with_reducible exact ih2 _ _ _ _)
   | (with_reducible exact impl_QueueNext.mono _ _ _)
   | (with_reducible exact spec_DrawQueueNext.mono _ _)
   | (with_reducible exact spec_QueueNext.mono _ _ _)
   | (with_reducible exact LeO.refl _)
   | (with_reducible exact LeO.none _)
   | (with_reducible refine LeO.ite ?_ ?_)
   | (with_reducible refine LeO.bind ?_ (fun _ => ?_))
   | exact ih0 _ _ _ _ _
   | exact ih1 _ _ _ _ _
   | exact ih2 _ _ _ _
   | exact impl_QueueNext.mono _ _ _
   | exact spec_DrawQueueNext.mono _ _
   | exact spec_QueueNext.mono _ _ _
   | exact LeO.none _
   | refine LeO.ite ?_ ?_
   | refine LeO.bind ?_ (fun _ => ?_)
  ·intro y0 y1 y2 y3
   unfold laws_FnQueueNext.l1
   repeat' first
   | (with_reducible exact ih0 _ _ _ _ _)
   | (with_reducible exact ih1 _ _ _ _ _)
   | (with_reducible exact ih2 _ _ _ _)
   | (with_reducible exact impl_QueueNext.mono _ _ _)
   | (with_reducible exact spec_DrawQueueNext.mono _ _)
   | (with_reducible exact spec_QueueNext.mono _ _ _)
   | (with_reducible exact LeO.refl _)
   | (with_reducible exact LeO.none _)
   | (with_reducible refine LeO.ite ?_ ?_)
   | (with_reducible refine LeO.bind ?_ (fun _ => ?_))
   | exact ih0 _ _ _ _ _
   | exact ih1 _ _ _ _ _
   | exact ih2 _ _ _ _
   | exact impl_QueueNext.mono _ _ _
   | exact spec_DrawQueueNext.mono _ _
   | exact spec_QueueNext.mono _ _ _
   | exact LeO.none _
   | refine LeO.ite ?_ ?_
   | refine LeO.bind ?_ (fun _ => ?_)
theorem laws_FnQueueNext.mono : ∀ a0 k,LeO (laws_FnQueueNext.f k a0) (laws_FnQueueNext.f (k + 1) a0) := by
 intro a0 k
 obtain ⟨ih0,ih1,ih2⟩ := laws_FnQueueNext.mono_l k
 unfold laws_FnQueueNext.f
 repeat' first
   | (with_reducible exact ih0 _ _ _ _ _)
   | (with_reducible exact ih1 _ _ _ _ _)
   | (with_reducible exact ih2 _ _ _ _)
   | (with_reducible exact impl_QueueNext.mono _ _ _)
   | (with_reducible exact spec_DrawQueueNext.mono _ _)
   | (with_reducible exact spec_QueueNext.mono _ _ _)
   | (with_reducible exact LeO.refl _)
   | (with_reducible exact LeO.none _)
   | (with_reducible refine LeO.ite ?_ ?_)
   | (with_reducible refine LeO.bind ?_ (fun _ => ?_))
   | exact ih0 _ _ _ _ _
   | exact ih1 _ _ _ _ _
   | exact ih2 _ _ _ _
   | exact impl_QueueNext.mono _ _ _
   | exact spec_DrawQueueNext.mono _ _
   | exact spec_QueueNext.mono _ _ _
   | exact LeO.none _
   | refine LeO.ite ?_ ?_
   | refine LeO.bind ?_ (fun _ => ?_)
set_option maxHeartbeats 8000000 in
set_option maxRecDepth 100000 in
theorem laws_FnQueueNext.calls (k : Nat) (A0 : Option Addr) (c0 : Nat) (l0 : List Int) (r : Bool) (w : World) (hr0 : Kd.C (Kd.int .u8) w A0 l0.length l0) (hc0 : l0.length ≤ c0) (h : laws_FnQueueNext.f k l0 = some r) (hr_ : r = true) :
  Calls Try.prog 5 #[.slice A0 l0.length c0] w fun e w' => e = .returned (.bool r) ∧ Below w.heap.size w w' := by
 have hu29 := Try.underlying29;have HR0 := Aside0.mk hr0;have HC0 := Aside0.mk hc0;clear hr0 hc0;have HB := Aside0.mk (Below.refl w.heap.size w);have H : (if (l0.length : Int) > 1048576 then (some true) else ((spec_DrawQueueNext.f k l0).bind fun bt246 => ((impl_QueueNext.f k bt246.1 bt246.2).bind fun t251 => ((spec_QueueNext.f k bt246.1 bt246.2).bind fun t252 => (if t251 = t252 then (laws_FnQueueNext.j0 k t251 (t251 == t252) (!(decide (t251 ≥ 0))) bt246.1 bt246.2) else (laws_FnQueueNext.j0 k t251 (t251 == t252) true bt246.1 bt246.2)))))) = some r := h;clear h;by_cases c2 : (l0.length : Int) > 1048576
 ·rw [if_pos c2] at H;have c2b0 : decide (1048576 < (l0.length : Int)) = true := decide_eq_true c2;have c2b1 : decide (1048576 < l0.length) = true := decide_eq_true (by omega);clear c2;obtain rfl := Option.some.inj H
  simp only [Option.some.injEq,Prod.mk.injEq] at H
  obtain ⟨rfl⟩ := H
  go_enter Try.func5,Try.ntmps5
  go_wp2
  go_ret
  exact ⟨by first | rfl | (simp [errW_none,errW_some] <;> rfl) | (simp [*,errW_none,errW_some] <;> rfl),by repeat (first | (with_reducible first | exact HB.out | apply below_alloc | apply pw_below_drewN | apply below_drew1) | exact HB.out)⟩
 ·rw [if_neg c2] at H;have c2b0 : decide (1048576 < (l0.length : Int)) = false := decide_eq_false c2;have c2b1 : decide (1048576 < l0.length) = false := decide_eq_false (by omega);clear c2;replace H := Option.bind_eq_some_iff.mp H;obtain ⟨⟨t246,t249⟩,A30,H⟩ := H;replace H : ((impl_QueueNext.f k t246 t249).bind fun t251 => ((spec_QueueNext.f k t246 t249).bind fun t252 => (if t251 = t252 then (laws_FnQueueNext.j0 k t251 (t251 == t252) (!(decide (t251 ≥ 0))) t246 t249) else (laws_FnQueueNext.j0 k t251 (t251 == t252) true t246 t249)))) = some r := H;have A3 := Aside0.mk A30;clear A30;replace H := Option.bind_eq_some_iff.mp H;obtain ⟨t251,A40,H⟩ := H;replace H : ((spec_QueueNext.f k t246 t249).bind fun t252 => (if t251 = t252 then (laws_FnQueueNext.j0 k t251 (t251 == t252) (!(decide (t251 ≥ 0))) t246 t249) else (laws_FnQueueNext.j0 k t251 (t251 == t252) true t246 t249))) = some r := H;have A4 := Aside0.mk A40;clear A40;replace H := Option.bind_eq_some_iff.mp H;obtain ⟨t252,A50,H⟩ := H;replace H : (if t251 = t252 then (laws_FnQueueNext.j0 k t251 (t251 == t252) (!(decide (t251 ≥ 0))) t246 t249) else (laws_FnQueueNext.j0 k t251 (t251 == t252) true t246 t249)) = some r := H;have A5 := Aside0.mk A50;clear A50;have HC6 := Aside0.mk H;clear H
  go_enter Try.func5,Try.ntmps5
  go_upto_region 7 with (first | ((with_reducible refine gate_callee (f := 16) rfl ?_); refine goesL_ (some 14) rfl rfl Try.func16 (by kernel_rfl) rfl #[.slice A0 l0.length c0] rfl (by (try simp only [List.map_toArray,List.map_cons,List.map_nil]); first | done | rfl | (simp only [List.length_drop,List.length_take]; rfl)) ?_; (with_reducible refine (spec_DrawQueueNext.calls k _ _ l0 t246 t249 _ ?side1 ?side2 A3.out).mono ?_); (case side1 => repeat (first | exact HR0.out | (with_reducible refine Kd.C_alloc ?_ _) | (with_reducible refine Kd.C_drewN ?_ _) | (with_reducible refine Kd.C_drew ?_))); (case side2 => exact HC0.out); rintro e w7 ⟨v247,rfl,ho0,hb⟩; refine ⟨_,rfl,?_⟩; have n0_ := Aside0.mk (Kd.R_lower ho0 (below_size (by repeat (first | (with_reducible first | exact HB.out | apply below_alloc | apply pw_below_drewN | apply below_drew1) | exact HB.out)))); have n1_ := Aside0.mk (below_step (by repeat (first | (with_reducible first | exact HB.out | apply below_alloc | apply pw_below_drewN | apply below_drew1) | exact HB.out)) hb); clear HB; have HO248 := n0_; have HB := n1_; clear n0_ n1_; (try clear hb); (try clear hb2); (try clear hk); (try clear hi); (try clear ho0)) | ((with_reducible refine gate_dst (N := 3) rfl ?_); refine box_event ?hg (N := 3) ?hd (cs := #[.slice none 0 0,.int .i64 0]) (t := 29) ?hr ?_; (case hd => rfl); (case hg => rfl); (case hr => first | (go_simp; done) | (go_simp; rfl)); intro gb250 hg w8 hbox hb; have n0_ := Aside0.mk (Kd.R_below (by (with_reducible repeat (first | apply Kd.R_alloc | apply Kd.R_drewN | apply Kd.R_drew)); exact HO248.out) hb); have n1_ := Aside0.mk (below_step (by repeat (first | (with_reducible first | exact HB.out | apply below_alloc | apply pw_below_drewN | apply below_drew1) | exact HB.out)) hb); have n2_ := Aside0.mk (hbox); have n3_ := Aside0.mk ((by rw [hg]; exact (below_size (by repeat (first | (with_reducible first | exact HB.out | apply below_alloc | apply pw_below_drewN | apply below_drew1) | exact HB.out))) : w.heap.size ≤ gb250)); have n4_ := Aside0.mk ((by rw [hg]; exact (below_size (by repeat (first | (with_reducible first | exact HB.out | apply below_alloc | apply pw_below_drewN | apply below_drew1) | exact HB.out))) : w.heap.size ≤ gb250)); clear HO248; clear HB; have HO248 := n0_; have HB := n1_; have BK250 := n2_; have GW250 := n3_; have GE250 := n4_; clear n0_ n1_ n2_ n3_ n4_; clear hb hbox hg; obtain ⟨Ao9,co9,eo9⟩ := Kd.R_slice HO248.out; subst eo9; have hcz10 := pk2 BK250.out) | ((with_reducible refine gate_callee (f := 15) rfl ?_); refine goesL_ (some 16) rfl rfl Try.func15 (by kernel_rfl) rfl #[.agg #[.slice Ao9 t246.length co9,.int .i64 t249]] rfl (by (try simp only [List.map_toArray,List.map_cons,List.map_nil]); first | done | rfl | (simp only [List.length_drop,List.length_take]; rfl)) ?_; (with_reducible refine (impl_QueueNext.calls k _ _ t246 t249 t251 _ ?side1 ?side2 A4.out).mono ?_); (case side1 => refine (Kd.R_reads' (e := 37) (base := w.heap.size) (ok := fun k_ => True) (n := t246.length) (c := co9) ?_).2.2; exact (by (with_reducible repeat (first | apply Kd.R_alloc | apply Kd.R_drewN | apply Kd.R_drew)); exact (Kd.R_mono (Kd.R_far (p := ⟨gb250,1,none⟩) (Kd.R_far (p := ⟨gb250,0,none⟩) (Kd.R_types HO248.out BK250.out (by decide)) (fun _ hk => hk.2) (.slice Ao9 t246.length co9)) (fun _ hk => hk.2) (.int .i64 t249)) (fun _ h_ => h_.1)))); (case side2 => exact (Kd.R_reads' HO248.out).2.1); rintro e w11 ⟨rfl,hb⟩; refine ⟨_,rfl,?_⟩; have n0_ := Aside0.mk (Kd.R_below (by (with_reducible repeat (first | apply Kd.R_alloc | apply Kd.R_drewN | apply Kd.R_drew)); exact (Kd.R_mono (Kd.R_far (p := ⟨gb250,1,none⟩) (Kd.R_far (p := ⟨gb250,0,none⟩) (Kd.R_types HO248.out BK250.out (by decide)) (fun _ hk => hk.2) (.slice Ao9 t246.length co9)) (fun _ hk => hk.2) (.int .i64 t249)) (fun _ h_ => h_.1))) hb); have n1_ := Aside0.mk (blk_below (g := gb250) (o := .cells #[.slice Ao9 t246.length co9,.int .i64 t249] 29 (0,0)) (by (with_reducible repeat (first | refine blk_drewN ?_ _ | refine blk_drew ?_ | refine blk_alloc ?_ _)); refine blk_put (cs := #[.slice Ao9 t246.length co9,.int .i64 0]) ?_ 1 _ rfl; (with_reducible repeat (first | refine blk_drewN ?_ _ | refine blk_drew ?_ | refine blk_alloc ?_ _)); refine blk_put (cs := #[.slice none 0 0,.int .i64 0]) ?_ 0 _ rfl; (with_reducible repeat (first | refine blk_drewN ?_ _ | refine blk_drew ?_ | refine blk_alloc ?_ _)); exact BK250.out) hb); have n2_ := Aside0.mk (below_step (by repeat (first | (with_reducible first | exact HB.out | apply below_alloc | apply pw_below_drewN | apply below_drew1 | refine below_set ?_ GE250.out) | exact HB.out)) hb); clear HO248; clear BK250; clear HB; have HO248 := n0_; have BK250 := n1_; have HB := n2_; clear n0_ n1_ n2_; (try clear hb); (try clear hb2); (try clear hk); (try clear hi); have hcz12 := pk2 BK250.out) | ((with_reducible refine gate_callee (f := 14) rfl ?_); refine goesL_ (some 18) rfl rfl Try.func14 (by kernel_rfl) rfl #[.agg #[.slice Ao9 t246.length co9,.int .i64 t249]] rfl (by (try simp only [List.map_toArray,List.map_cons,List.map_nil]); first | done | rfl | (simp only [List.length_drop,List.length_take]; rfl)) ?_; (with_reducible refine (spec_QueueNext.calls k _ _ t246 t249 t252 _ ?side1 ?side2 A5.out).mono ?_); (case side1 => repeat (first | exact (Kd.R_reads' HO248.out).2.2 | (with_reducible refine Kd.C_alloc ?_ _) | (with_reducible refine Kd.C_drewN ?_ _) | (with_reducible refine Kd.C_drew ?_))); (case side2 => exact (Kd.R_reads' HO248.out).2.1); rintro e w13 ⟨rfl,hb⟩; refine ⟨_,rfl,?_⟩; have n0_ := Aside0.mk (Kd.R_below (by (with_reducible repeat (first | apply Kd.R_alloc | apply Kd.R_drewN | apply Kd.R_drew)); exact HO248.out) hb); have n1_ := Aside0.mk (blk_below (g := gb250) (o := .cells #[.slice Ao9 t246.length co9,.int .i64 t249] 29 (0,0)) (by (with_reducible repeat (first | refine blk_drewN ?_ _ | refine blk_drew ?_ | refine blk_alloc ?_ _)); exact BK250.out) hb); have n2_ := Aside0.mk (below_step (by repeat (first | (with_reducible first | exact HB.out | apply below_alloc | apply pw_below_drewN | apply below_drew1 | refine below_set ?_ GE250.out) | exact HB.out)) hb); clear HO248; clear BK250; clear HB; have HO248 := n0_; have BK250 := n1_; have HB := n2_; clear n0_ n1_ n2_; (try clear hb); (try clear hb2); (try clear hk); (try clear hi)))
  (try simp only [Act.put,List.setIfInBounds_toArray,List.set_cons_zero,List.set_cons_succ])
  go_cut [28] (fun v28 wc => ∃ (kq : Nat) (x28_5 : Bool),v28 = .bool x28_5 ∧ Aside0 (laws_FnQueueNext.j0 kq t251 (t251 == t252) x28_5 t246 t249 = some r) ∧ Aside0 (kq ≤ k) ∧ Aside0 (Kd.R k37 37 wc w.heap.size (fun _ => True) (.slice Ao9 t246.length co9) t246) ∧ Aside0 (wc.heap[gb250]? = some (.cells #[(.slice Ao9 t246.length co9),.int .i64 t249] 29 (0,0))) ∧ Aside0 (Below w.heap.size w wc))
  case first =>
   have H := HC6.out;clear HC6;by_cases c14 : t251 = t252
   ·rw [if_pos c14] at H;have c14b0 : (t251 == t252) = true := beq_iff_eq.mpr c14;have c14b1 : (t251 != t252) = false := bne_eq_false_iff_eq.mpr c14;clear c14;(first | rw [c14b0] | (simp only [i64_w,i32_w]; rw [c14b0]) | skip);have H' := Aside0.mk H;clear H
    go_wp2
    (refine Met.intro ?_; go_step; (repeat apply Exists.intro); refine ⟨?rel,?eqv⟩; case eqv => first | rfl | (rw [c14b0]; rfl) | (simp only [c14b0]; rfl))
    case rel => exact ⟨_,(!(decide (t251 ≥ 0))),(by first | rfl | (simp; done) | (simp [*]; done)),H',⟨by first | omega | exact Nat.le_refl _⟩,⟨by (with_reducible repeat (first | apply Kd.R_alloc | apply Kd.R_drewN | apply Kd.R_drew)); exact HO248.out⟩,⟨by (with_reducible repeat (first | refine blk_drewN ?_ _ | refine blk_drew ?_ | refine blk_alloc ?_ _)); first | exact BK250.out | (simp only [*]; exact BK250.out)⟩,⟨by repeat (first | (with_reducible first | exact HB.out | apply below_alloc | apply pw_below_drewN | apply below_drew1 | refine below_set ?_ GE250.out) | exact HB.out)⟩⟩
   ·rw [if_neg c14] at H;have c14b0 : (t251 == t252) = false := beq_eq_false_iff_ne.mpr c14;have c14b1 : (t251 != t252) = true := bne_iff_ne.mpr c14;(first | rw [c14b0] | (simp only [i64_w,i32_w]; rw [c14b0]) | skip);have H' := Aside0.mk H;clear H
    go_wp2
    (refine Met.intro ?_; go_step; (repeat apply Exists.intro); refine ⟨?rel,?eqv⟩; case eqv => first | rfl | (rw [c14b0]; rfl) | (simp only [c14b0]; rfl))
    case rel => exact ⟨_,(true),(by first | rfl | (simp; done) | (simp [*]; done)),H',⟨by first | omega | exact Nat.le_refl _⟩,⟨by (with_reducible repeat (first | apply Kd.R_alloc | apply Kd.R_drewN | apply Kd.R_drew)); exact HO248.out⟩,⟨by (with_reducible repeat (first | refine blk_drewN ?_ _ | refine blk_drew ?_ | refine blk_alloc ?_ _)); first | exact BK250.out | (simp only [*]; exact BK250.out)⟩,⟨by repeat (first | (with_reducible first | exact HB.out | apply below_alloc | apply pw_below_drewN | apply below_drew1 | refine below_set ?_ GE250.out) | exact HB.out)⟩⟩
  case rest =>
   clear HC6;(try clear c1);(try clear c2);(try clear c2b0);(try clear c2b1);(try clear p2);(try clear c5);(try clear c14);(try clear c14b0);(try clear c14b1);(try clear hcz10);(try clear hcz12);obtain ⟨kq,x28_5,rfl,HA,HJ5,HO_251000,BK250,HB⟩ := hcut
   cases kq with
   | zero => exact absurd HA.out (by simp [laws_FnQueueNext.j0])
   | succ kj5 =>
    have H := HA.out;clear HA
    simp only [laws_FnQueueNext.j0] at H
    by_cases c15 : x28_5 = true
    ·subst c15;(have H1 : (some (t251 == t252)) = some r := by rw [if_pos rfl] at H; exact H);clear H;have H := H1;clear H1;obtain rfl := Option.some.inj H
     simp only [Option.some.injEq,Prod.mk.injEq] at H
     obtain ⟨rfl⟩ := H
     go_wp2
     go_ret
     exact ⟨by first | rfl | (simp [errW_none,errW_some] <;> rfl) | (simp [*,errW_none,errW_some] <;> rfl),by repeat (first | (with_reducible first | exact HB.out | apply below_alloc | apply pw_below_drewN | apply below_drew1 | refine below_set ?_ GE250.out) | exact HB.out)⟩
    ·replace c15 := Bool.eq_false_iff.mpr c15;subst c15;(have H1 : (laws_FnQueueNext.l0 kj5 t251 (-1) 0 t246 t249) = some r := by rw [if_neg (show ¬ (false = true) by decide)] at H; exact H);clear H;have H := H1;clear H1;have H' := Aside0.mk H;clear H
     go_wp2
     go_loopg [7,8] kj5 (fun kq v7 v8 w' => ∃ (x7_2 : Int) (x8_2 : Int),v7 = .int .i64 x7_2 ∧ v8 = .int .i64 x8_2 ∧ Aside0 (laws_FnQueueNext.l0 kq t251 x7_2 x8_2 t246 t249 = some r) ∧ Aside0 (kq ≤ kj5) ∧ Aside0 (Kd.R k37 37 w' w.heap.size (fun _ => True) (.slice Ao9 t246.length co9) t246) ∧ Aside0 (w'.heap[gb250]? = some (.cells #[(.slice Ao9 t246.length co9),.int .i64 t249] 29 (0,0))) ∧ Aside0 (Below w.heap.size w w'))
     case atStart => exact ⟨((-1)),(0),(by first | rfl | (simp; done) | (simp [*]; done)),(by first | rfl | (simp; done) | (simp [*]; done)),H',⟨Nat.le_refl _⟩,⟨by (with_reducible repeat (first | apply Kd.R_alloc | apply Kd.R_drewN | apply Kd.R_drew)); exact HO_251000.out⟩,⟨by (with_reducible repeat (first | refine blk_drewN ?_ _ | refine blk_drew ?_ | refine blk_alloc ?_ _)); first | exact BK250.out | (simp only [*]; exact BK250.out)⟩,⟨by repeat (first | (with_reducible first | exact HB.out | apply below_alloc | apply pw_below_drewN | apply below_drew1 | refine below_set ?_ GE250.out) | exact HB.out)⟩⟩
     case round =>
      clear H';(try clear c1);(try clear c2);(try clear c2b0);(try clear c2b1);(try clear p2);(try clear c5);(try clear c14);(try clear c14b0);(try clear c14b1);(try clear c15);(try clear hcz10);(try clear hcz12);(try clear p2);obtain ⟨x7_2,x8_2,rfl,rfl,HA,HK2,HO_251000,BK250,HB⟩ := hrel
      cases gk with
      | zero => exact absurd HA.out (by simp [laws_FnQueueNext.l0])
      | succ k2 =>
       have H := HA.out;clear HA
       simp only [laws_FnQueueNext.l0] at H
       by_cases c16 : x8_2 < (t246.length : Int)
       ·rw [if_pos c16] at H;have c16b0 : decide (x8_2 < (t246.length : Int)) = true := decide_eq_true c16;clear c16;by_cases c17 : 0 ≤ x8_2
        ·rw [if_pos c17] at H;have c17b0 : decide (0 ≤ x8_2) = true := decide_eq_true c17;clear c17;by_cases c18 : ((rd_T37 t246 x8_2).f0) = t251
         ·rw [if_pos c18] at H;have c18b0 : (((rd_T37 t246 x8_2).f0) == t251) = true := beq_iff_eq.mpr c18;have c18b1 : (((rd_T37 t246 x8_2).f0) != t251) = false := bne_eq_false_iff_eq.mpr c18;clear c18;obtain ⟨bq19,hbq19⟩ : ∃ b_ : Bool,b_ = ((rd_T37 t246 x8_2).f3) := ⟨_,rfl⟩;(replace H : (if bq19 = true then (laws_FnQueueNext.l0 k2 t251 ((rd_T37 t246 x8_2).f2) (wrap64 (x8_2 + 1)) t246 t249) else (laws_FnQueueNext.l0 k2 t251 x7_2 (wrap64 (x8_2 + 1)) t246 t249)) = some r := by rw [← hbq19] at H; exact H);have Nbq19 := Aside0.mk hbq19;clear hbq19;by_cases c20 : bq19 = true
          ·subst c20;(try rw [← Nbq19.out]);(have H1 : (laws_FnQueueNext.l0 k2 t251 ((rd_T37 t246 x8_2).f2) (wrap64 (x8_2 + 1)) t246 t249) = some r := by rw [if_pos rfl] at H; exact H);clear H;have H := H1;clear H1;have H' := Aside0.mk H;clear H;have hcz21 := pk2 BK250.out;have p253 : 0 ≤ (x8_2 : Int) := of_decide_eq_true (by first | (with_reducible assumption) | assumption);have q253 : x8_2 < (t246.length : Int) := of_decide_eq_true (by first | (with_reducible assumption) | assumption);obtain ⟨ad253,e253,hx253_0,hx253_1,hx253_2,hx253_3⟩ := at_T37 (Kd.R_reads' HO_251000.out).2.2 x8_2 p253 q253;(try rw [← Nbq19.out] at hx253_3)
           cases e253
           replace p253 := eq_true p253;replace q253 := eq_true q253;have p254 : 0 ≤ (x8_2 : Int) := of_decide_eq_true (by first | (with_reducible assumption) | assumption);have q254 : x8_2 < (t246.length : Int) := of_decide_eq_true (by first | (with_reducible assumption) | assumption);obtain ⟨ad254,e254,hx254_0,hx254_1,hx254_2,hx254_3⟩ := at_T37 (Kd.R_reads' HO_251000.out).2.2 x8_2 p254 q254;(try rw [← Nbq19.out] at hx254_3);obtain rfl : ad253 = ad254 := (by injection e254);replace p254 := eq_true p254;replace q254 := eq_true q254;have p255 : 0 ≤ (x8_2 : Int) := of_decide_eq_true (by first | (with_reducible assumption) | assumption);have q255 : x8_2 < (t246.length : Int) := of_decide_eq_true (by first | (with_reducible assumption) | assumption);obtain ⟨ad255,e255,hx255_0,hx255_1,hx255_2,hx255_3⟩ := at_T37 (Kd.R_reads' HO_251000.out).2.2 x8_2 p255 q255;(try rw [← Nbq19.out] at hx255_3);obtain rfl : ad253 = ad255 := (by injection e255);replace p255 := eq_true p255;replace q255 := eq_true q255
           go_wp2
           go_roundg k2
           case measure => have := HJ5.out; have := HK2.out; omega
           case rel => (try rw [← Nbq19.out]); exact ⟨((rd_T37 t246 x8_2).f2),(wrap64 (x8_2 + 1)),(by first | rfl | (simp; done) | (simp [*]; done)),(by first | rfl | (simp; done) | (simp [*]; done)),H',⟨by have := HJ5.out; have := HK2.out; omega⟩,⟨by (with_reducible repeat (first | apply Kd.R_alloc | apply Kd.R_drewN | apply Kd.R_drew)); exact HO_251000.out⟩,⟨by (with_reducible repeat (first | refine blk_drewN ?_ _ | refine blk_drew ?_ | refine blk_alloc ?_ _)); first | exact BK250.out | (simp only [*]; exact BK250.out)⟩,⟨by repeat (first | (with_reducible first | exact HB.out | apply below_alloc | apply pw_below_drewN | apply below_drew1 | refine below_set ?_ GE250.out) | exact HB.out)⟩⟩
          ·replace c20 := Bool.eq_false_iff.mpr c20;subst c20;(try rw [← Nbq19.out]);(have H1 : (laws_FnQueueNext.l0 k2 t251 x7_2 (wrap64 (x8_2 + 1)) t246 t249) = some r := by rw [if_neg (show ¬ (false = true) by decide)] at H; exact H);clear H;have H := H1;clear H1;have H' := Aside0.mk H;clear H;have hcz22 := pk2 BK250.out;have p253 : 0 ≤ (x8_2 : Int) := of_decide_eq_true (by first | (with_reducible assumption) | assumption);have q253 : x8_2 < (t246.length : Int) := of_decide_eq_true (by first | (with_reducible assumption) | assumption);obtain ⟨ad253,e253,hx253_0,hx253_1,hx253_2,hx253_3⟩ := at_T37 (Kd.R_reads' HO_251000.out).2.2 x8_2 p253 q253;(try rw [← Nbq19.out] at hx253_3)
           cases e253
           replace p253 := eq_true p253;replace q253 := eq_true q253;have p254 : 0 ≤ (x8_2 : Int) := of_decide_eq_true (by first | (with_reducible assumption) | assumption);have q254 : x8_2 < (t246.length : Int) := of_decide_eq_true (by first | (with_reducible assumption) | assumption);obtain ⟨ad254,e254,hx254_0,hx254_1,hx254_2,hx254_3⟩ := at_T37 (Kd.R_reads' HO_251000.out).2.2 x8_2 p254 q254;(try rw [← Nbq19.out] at hx254_3);obtain rfl : ad253 = ad254 := (by injection e254);replace p254 := eq_true p254;replace q254 := eq_true q254
           go_wp2
           go_roundg k2
           case measure => have := HJ5.out; have := HK2.out; omega
           case rel => (try rw [← Nbq19.out]); exact ⟨(x7_2),(wrap64 (x8_2 + 1)),(by first | rfl | (simp; done) | (simp [*]; done)),(by first | rfl | (simp; done) | (simp [*]; done)),H',⟨by have := HJ5.out; have := HK2.out; omega⟩,⟨by (with_reducible repeat (first | apply Kd.R_alloc | apply Kd.R_drewN | apply Kd.R_drew)); exact HO_251000.out⟩,⟨by (with_reducible repeat (first | refine blk_drewN ?_ _ | refine blk_drew ?_ | refine blk_alloc ?_ _)); first | exact BK250.out | (simp only [*]; exact BK250.out)⟩,⟨by repeat (first | (with_reducible first | exact HB.out | apply below_alloc | apply pw_below_drewN | apply below_drew1 | refine below_set ?_ GE250.out) | exact HB.out)⟩⟩
         ·rw [if_neg c18] at H;have c18b0 : (((rd_T37 t246 x8_2).f0) == t251) = false := beq_eq_false_iff_ne.mpr c18;have c18b1 : (((rd_T37 t246 x8_2).f0) != t251) = true := bne_iff_ne.mpr c18;have H' := Aside0.mk H;clear H;have hcz23 := pk2 BK250.out;have p253 : 0 ≤ (x8_2 : Int) := of_decide_eq_true (by first | (with_reducible assumption) | assumption);have q253 : x8_2 < (t246.length : Int) := of_decide_eq_true (by first | (with_reducible assumption) | assumption);obtain ⟨ad253,e253,hx253_0,hx253_1,hx253_2,hx253_3⟩ := at_T37 (Kd.R_reads' HO_251000.out).2.2 x8_2 p253 q253
          cases e253
          replace p253 := eq_true p253;replace q253 := eq_true q253
          go_wp2
          go_roundg k2
          case measure => have := HJ5.out; have := HK2.out; omega
          case rel => exact ⟨(x7_2),(wrap64 (x8_2 + 1)),(by first | rfl | (simp; done) | (simp [*]; done)),(by first | rfl | (simp; done) | (simp [*]; done)),H',⟨by have := HJ5.out; have := HK2.out; omega⟩,⟨by (with_reducible repeat (first | apply Kd.R_alloc | apply Kd.R_drewN | apply Kd.R_drew)); exact HO_251000.out⟩,⟨by (with_reducible repeat (first | refine blk_drewN ?_ _ | refine blk_drew ?_ | refine blk_alloc ?_ _)); first | exact BK250.out | (simp only [*]; exact BK250.out)⟩,⟨by repeat (first | (with_reducible first | exact HB.out | apply below_alloc | apply pw_below_drewN | apply below_drew1 | refine below_set ?_ GE250.out) | exact HB.out)⟩⟩
        ·rw [if_neg c17] at H
         exact absurd H (by simp)
       ·rw [if_neg c16] at H;have c16b0 : decide (x8_2 < (t246.length : Int)) = false := decide_eq_false c16;clear c16;have H' := Aside0.mk H;clear H;have hcz24 := pk2 BK250.out
        go_wp2
        go_loopg [9] k2 (fun kq v9 w' => ∃ (x9_3 : Int),v9 = .int .i64 x9_3 ∧ Aside0 (laws_FnQueueNext.l1 kq x7_2 x9_3 t246 t249 = some r) ∧ Aside0 (kq ≤ k2) ∧ Aside0 (Kd.R k37 37 w' w.heap.size (fun _ => True) (.slice Ao9 t246.length co9) t246) ∧ Aside0 (w'.heap[gb250]? = some (.cells #[(.slice Ao9 t246.length co9),.int .i64 t249] 29 (0,0))) ∧ Aside0 (Below w.heap.size w w'))
        case atStart => exact ⟨(0),(by first | rfl | (simp; done) | (simp [*]; done)),H',⟨Nat.le_refl _⟩,⟨by (with_reducible repeat (first | apply Kd.R_alloc | apply Kd.R_drewN | apply Kd.R_drew)); exact HO_251000.out⟩,⟨by (with_reducible repeat (first | refine blk_drewN ?_ _ | refine blk_drew ?_ | refine blk_alloc ?_ _)); first | exact BK250.out | (simp only [*]; exact BK250.out)⟩,⟨by repeat (first | (with_reducible first | exact HB.out | apply below_alloc | apply pw_below_drewN | apply below_drew1 | refine below_set ?_ GE250.out) | exact HB.out)⟩⟩
        case round =>
         clear H';(try clear c1);(try clear q1);(try clear c2);(try clear c2b0);(try clear c2b1);(try clear p2);(try clear q2);(try clear hx2);(try clear c5);(try clear p6);(try clear c14);(try clear c14b0);(try clear c14b1);(try clear c15);(try clear c16);(try clear c16b0);(try clear c17);(try clear c17b0);(try clear c18);(try clear c18b0);(try clear c18b1);(try clear q19);(try clear c20);(try clear hcz10);(try clear hcz12);(try clear hcz21);(try clear hcz22);(try clear hcz23);(try clear hcz24);(try clear hx253_0);(try clear hx253_1);(try clear hx253_2);(try clear hx253_3);(try clear hx254_0);(try clear hx254_1);(try clear hx254_2);(try clear hx254_3);(try clear hx255_0);(try clear hx255_1);(try clear hx255_2);(try clear hx255_3);(try clear p2);(try clear p253);(try clear p254);(try clear p255);(try clear q253);(try clear q254);(try clear q255);obtain ⟨x9_3,rfl,HA,HK3,HO_251000,BK250,HB⟩ := hrel
         cases gk with
         | zero => exact absurd HA.out (by simp [laws_FnQueueNext.l1])
         | succ k3 =>
          have H := HA.out;clear HA
          simp only [laws_FnQueueNext.l1] at H
          by_cases c25 : x9_3 < (t246.length : Int)
          ·rw [if_pos c25] at H;have c25b0 : decide (x9_3 < (t246.length : Int)) = true := decide_eq_true c25;clear c25;by_cases c26 : 0 ≤ x9_3
           ·rw [if_pos c26] at H;have c26b0 : decide (0 ≤ x9_3) = true := decide_eq_true c26;clear c26;obtain ⟨bq27,hbq27⟩ : ∃ b_ : Bool,b_ = ((rd_T37 t246 x9_3).f3) := ⟨_,rfl⟩;(replace H : (if bq27 = true then (if ((rd_T37 t246 x9_3).f2) < x7_2 then (some false) else (laws_FnQueueNext.l1 k3 x7_2 (wrap64 (x9_3 + 1)) t246 t249)) else (laws_FnQueueNext.l1 k3 x7_2 (wrap64 (x9_3 + 1)) t246 t249)) = some r := by rw [← hbq27] at H; exact H);have Nbq27 := Aside0.mk hbq27;clear hbq27;by_cases c28 : bq27 = true
            ·subst c28;(try rw [← Nbq27.out]);(have H1 : (if ((rd_T37 t246 x9_3).f2) < x7_2 then (some false) else (laws_FnQueueNext.l1 k3 x7_2 (wrap64 (x9_3 + 1)) t246 t249)) = some r := by rw [if_pos rfl] at H; exact H);clear H;have H := H1;clear H1;by_cases c29 : ((rd_T37 t246 x9_3).f2) < x7_2
             ·rw [if_pos c29] at H;have c29b0 : decide (((rd_T37 t246 x9_3).f2) < x7_2) = true := decide_eq_true c29;clear c29;obtain rfl := Option.some.inj H
              cases hr_
             ·rw [if_neg c29] at H;have c29b0 : decide (((rd_T37 t246 x9_3).f2) < x7_2) = false := decide_eq_false c29;clear c29;have H' := Aside0.mk H;clear H;have hcz30 := pk2 BK250.out;have p256 : 0 ≤ (x9_3 : Int) := of_decide_eq_true (by first | (with_reducible assumption) | assumption);have q256 : x9_3 < (t246.length : Int) := of_decide_eq_true (by first | (with_reducible assumption) | assumption);obtain ⟨ad256,e256,hx256_0,hx256_1,hx256_2,hx256_3⟩ := at_T37 (Kd.R_reads' HO_251000.out).2.2 x9_3 p256 q256;(try rw [← Nbq27.out] at hx256_3)
              cases e256
              replace p256 := eq_true p256;replace q256 := eq_true q256;have p257 : 0 ≤ (x9_3 : Int) := of_decide_eq_true (by first | (with_reducible assumption) | assumption);have q257 : x9_3 < (t246.length : Int) := of_decide_eq_true (by first | (with_reducible assumption) | assumption);obtain ⟨ad257,e257,hx257_0,hx257_1,hx257_2,hx257_3⟩ := at_T37 (Kd.R_reads' HO_251000.out).2.2 x9_3 p257 q257;(try rw [← Nbq27.out] at hx257_3);obtain rfl : ad256 = ad257 := (by injection e257);replace p257 := eq_true p257;replace q257 := eq_true q257
              go_wp2
              go_roundg k3
              case measure => have := HJ5.out; have := HK2.out; have := HK3.out; omega
              case rel => (try rw [← Nbq27.out]); exact ⟨(wrap64 (x9_3 + 1)),(by first | rfl | (simp; done) | (simp [*]; done)),H',⟨by have := HJ5.out; have := HK2.out; have := HK3.out; omega⟩,⟨by (with_reducible repeat (first | apply Kd.R_alloc | apply Kd.R_drewN | apply Kd.R_drew)); exact HO_251000.out⟩,⟨by (with_reducible repeat (first | refine blk_drewN ?_ _ | refine blk_drew ?_ | refine blk_alloc ?_ _)); first | exact BK250.out | (simp only [*]; exact BK250.out)⟩,⟨by repeat (first | (with_reducible first | exact HB.out | apply below_alloc | apply pw_below_drewN | apply below_drew1 | refine below_set ?_ GE250.out) | exact HB.out)⟩⟩
            ·replace c28 := Bool.eq_false_iff.mpr c28;subst c28;(try rw [← Nbq27.out]);(have H1 : (laws_FnQueueNext.l1 k3 x7_2 (wrap64 (x9_3 + 1)) t246 t249) = some r := by rw [if_neg (show ¬ (false = true) by decide)] at H; exact H);clear H;have H := H1;clear H1;have H' := Aside0.mk H;clear H;have hcz31 := pk2 BK250.out;have p256 : 0 ≤ (x9_3 : Int) := of_decide_eq_true (by first | (with_reducible assumption) | assumption);have q256 : x9_3 < (t246.length : Int) := of_decide_eq_true (by first | (with_reducible assumption) | assumption);obtain ⟨ad256,e256,hx256_0,hx256_1,hx256_2,hx256_3⟩ := at_T37 (Kd.R_reads' HO_251000.out).2.2 x9_3 p256 q256;(try rw [← Nbq27.out] at hx256_3)
             cases e256
             replace p256 := eq_true p256;replace q256 := eq_true q256
             go_wp2
             go_roundg k3
             case measure => have := HJ5.out; have := HK2.out; have := HK3.out; omega
             case rel => (try rw [← Nbq27.out]); exact ⟨(wrap64 (x9_3 + 1)),(by first | rfl | (simp; done) | (simp [*]; done)),H',⟨by have := HJ5.out; have := HK2.out; have := HK3.out; omega⟩,⟨by (with_reducible repeat (first | apply Kd.R_alloc | apply Kd.R_drewN | apply Kd.R_drew)); exact HO_251000.out⟩,⟨by (with_reducible repeat (first | refine blk_drewN ?_ _ | refine blk_drew ?_ | refine blk_alloc ?_ _)); first | exact BK250.out | (simp only [*]; exact BK250.out)⟩,⟨by repeat (first | (with_reducible first | exact HB.out | apply below_alloc | apply pw_below_drewN | apply below_drew1 | refine below_set ?_ GE250.out) | exact HB.out)⟩⟩
           ·rw [if_neg c26] at H
            exact absurd H (by simp)
          ·rw [if_neg c25] at H;have c25b0 : decide (x9_3 < (t246.length : Int)) = false := decide_eq_false c25;clear c25;obtain rfl := Option.some.inj H
           simp only [Option.some.injEq,Prod.mk.injEq] at H
           obtain ⟨rfl⟩ := H;have hcz32 := pk2 BK250.out
           go_wp2
           go_ret
           exact ⟨by first | rfl | (simp [errW_none,errW_some] <;> rfl) | (simp [*,errW_none,errW_some] <;> rfl),by repeat (first | (with_reducible first | exact HB.out | apply below_alloc | apply pw_below_drewN | apply below_drew1 | refine below_set ?_ GE250.out) | exact HB.out)⟩

/-- THE ONE PURE STATEMENT of laws_FnQueueNext: yours. -/
def laws_FnQueueNext.Pure : Prop := ∀ (l0 : List Int),l0.length ≤ maxLen → l0.length * 1 ≤ 140737488351232 → (∀ x ∈ l0,(Lit.int .u8 x).wf = true) → ∃ k,laws_FnQueueNext.f k l0 = some true
theorem laws_FnQueueNext.walk (P : laws_FnQueueNext.Pure) (a0 : Option Addr) (len0 cap0 : Nat) (z0 : List Int) (w : World) (w0 : (a0 = none ∧ len0 = 0 ∧ cap0 = 0 ∧ z0 = []) ∨ ∃ x,a0 = some x ∧ len0 ≤ cap0 ∧ cap0 ≤ maxLen ∧ z0.length = cap0 ∧ (∀ i,i < z0.length → w.cell? (x.add i) = some (.int .u8 (z0.getD i 0))) ∧ ∀ n ∈ z0,(Lit.int .u8 n).wf = true) (y0 : len0 * 1 ≤ 140737488351232) :
  Calls Try.prog 5 #[.slice a0 len0 cap0] w fun e w' => e = .returned (.bool true) ∧ Below w.heap.size w w' := by
 obtain ⟨l0,rfl,hr0,hm0,hw0,hc0⟩ := ReadsInt.ofRowC w0;obtain ⟨k,h⟩ := P l0 hm0 y0 hw0
 refine (laws_FnQueueNext.calls k _ _ l0 true w (Kd.C_of_reads (d := (0 : Int)) (h1 := fun _ => rfl) hr0) hc0 h rfl).mono ?_
 rintro e w' ⟨rfl,hd⟩
 exact ⟨rfl,hd⟩

end Go.Proofs.Ytjajfbgijailmaa.XFnQueueNext
