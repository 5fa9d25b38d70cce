/- The law FnExactQueueNext: for every input that can be read, the call returns true and every argument reads afterwards as it read before. No further condition. -/
import Derived.Test.YtjajfbgijailmaaRows
import Derived.Test.YtjajfbgijailmaaBr
import Derived.Test.YtjajfbgijailmaaXFnExactQueueNextx5
import Derived.Test.YtjajfbgijailmaaBdFnExactQueueNext
import Derived.Test.YtjajfbgijailmaaPureFnExactQueueNext
import Derived.WalkKit
import Derived.ProofKit
import Derived.OpenShut
import Derived.ShutString
import Derived.ChangeOld
import Derived.Below
import Derived.Carry
import Derived.SizedLaws
namespace Go.Proofs.Ytjajfbgijailmaa.fnExactQueueNext
open Go.ChangeShapes Go.WideShapes Go.ChangeAt Go.RowKit Go.Proofs.YtjajfbgijailmaaW.PrintWords Go.Proofs.Ytjajfbgijailmaa.Br Go.Proofs.Ytjajfbgijailmaa.XFnExactQueueNext Go.Proofs.Ytjajfbgijailmaa.BdFnExactQueueNext
open Go.ChangeMaps (open_string shut_string)
set_option linter.unusedVariables false
theorem own : ownKnob Try.prog.godebug = none := by kernel_rfl
theorem laidOut : laidOutB Try.prog = true := by kernel_rfl
instance : Inhabited S91 := ⟨z91⟩
theorem b91 {H : Type} (enc : TypeId × Value → H) (W : World) : Br enc Try.prog W 91 k91 B91 :=
  br_imp (br_iso (fun x : S91 => (x.f0, x.f1, x.f2, x.f3)) (fun q => (⟨q.1, q.2.1, q.2.2.1, q.2.2.2⟩ : S91)) (fun _ => rfl) (br_struct Try.underlying91 (by kernel_rfl) (brF_cons (o' := 1) rfl (by kernel_rfl) rfl (br_int Try.underlying3) (brF_cons (o' := 2) rfl (by kernel_rfl) rfl (br_int Try.underlying3) (brF_cons (o' := 3) rfl (by kernel_rfl) rfl (br_int Try.underlying3) (brF_last rfl (by kernel_rfl) rfl (br_bool Try.underlying4))))))) (fun _ h => h)
theorem bp0 {H : Type} (enc : TypeId × Value → H) (W : World) : Br enc Try.prog W 24 (Kd.pair (Kd.slice 91 k91) (Kd.int .i64)) (fun x => (x.1.length * 32 ≤ 140737488351232 ∧ ∀ z ∈ x.1, B91 z) ∧ (Lit.int .i64 x.2).wf = true) :=
  br_imp (br_struct Try.underlying24 (by kernel_rfl) (brF_cons (o' := 1) rfl (by kernel_rfl) rfl (br_slice 32 Try.underlying22 (by kernel_rfl) (by kernel_rfl) (b91 enc W)) (brF_last rfl (by kernel_rfl) rfl (br_int Try.underlying3)))) (fun _ h => h)
set_option maxRecDepth 100000 in
theorem lifted (os : Os) (started : os.Started) (H : Type) (enc : TypeId × Value → H) :
    ReturnsInHanded {} Try.checked os 4 .any (Rows.fnExactQueueNextSpec.pre6 enc Try.prog Try.f4 Rows.fnExactQueueNextRow.domain false) (Rows.fnExactQueueNextSpec.post enc Try.prog Try.f4 false true false false) := by
  refine returnsInHanded_of_change_sized (C := Try.checked) own started (by kernel_rfl) Try.func4
    (ChangeSpec.witness6 (enc := enc) (C := Try.checked) false ⟨#[], #[.agg #[.slice none 0 0, .int .i64 0]], []⟩ 8 (by kernel_rfl) (by kernel_rfl) (by kernel_rfl) (by kernel_rfl)) ?_
  intro W base args ds gs before hval0 hW hcnd hsz0 _
  have hsz : (DataW.weightsEach Try.prog (Try.f4.params.toList ++ Rows.fnExactQueueNextSpec.plain.varTypes Try.prog) (ds ++ gs)).all (· ≤ reachBytes) = true := hsz0
  have hval : ∀ (j : Nat) t v, Try.f4.params[j]? = some t → args[j]? = some v → Value.okWide Try.prog W .any base t v := hval0
  have hW' := hW
  obtain ⟨p, q, hA0, hV, rfl, hfz, hnd⟩ := hW
  have hA : DataW.TrodAll enc Try.prog W 0 (fun _ => true) true Try.f4.params.toList args.toList ds p := hA0
  rw [Try.params4] at hA hval hsz
  obtain ⟨v0, vs0, d0, ds0, p0, q0, hargs, rfl, rfl, h0, r0⟩ := trodAll_cons hA
  obtain ⟨rfl, rfl, rfl⟩ := trodAll_nil r0
  obtain rfl : args = #[v0] := by cases args; simp_all
  obtain ⟨rfl, rfl⟩ := trodVars_none hV
  have k0 := h0
  have lt0 : ∀ x ∈ p0, x.block < W.heap.size := by obtain ⟨m, hm⟩ := k0; exact DataW.trod_lt m _ _ _ hm
  obtain ⟨cs0, x0, hv0, hK0, hB0⟩ := br_agg (bp0 enc W) Try.underlying24 (hval 0 24 v0 rfl rfl) h0 hsz (j := 0) rfl rfl
  obtain ⟨l0_0, a0_1⟩ := x0
  obtain ⟨_, _, rfl, ⟨A0_0, c0_0, rfl, hc0_0, hr0_0⟩, rfl⟩ := hK0
  replace hv0 : v0 = .agg #[.slice A0_0 l0_0.length c0_0, .int .i64 a0_1] := hv0
  subst hv0
  clear hA0 hval0 hsz0 hsz hval
  obtain ⟨k, hk⟩ := Pure.FnExactQueueNext l0_0 a0_1 hB0
  refine (laws_FnExactQueueNext.calls (k := k) (l0_0 := l0_0) (a0_1 := a0_1) (r := true) (w := W) (A0_0 := A0_0) (c0_0 := c0_0) (hr0_0 := hr0_0) (hc0_0 := hc0_0) (h := hk) (hr_ := rfl)).mono fun e W' ⟨he, bel⟩ => ?_
  subst he
  exact ⟨_, rfl, _, _, _, [], _, [], hW', trodAll_mk1 (shut_bool Try.underlying4 _), (trodAll_cons_mk (Below.trod laidOut (by kernel_rfl) (of_decide_eq_true (by kernel_rfl)) k0 bel lt0) trodAll_mk0), rfl, bel.frame _, fun h => by cases h⟩
theorem over : Rows.fnExactQueueNextRow.holds Try.pinned (OpenSpec.ofChange Rows.fnExactQueueNextSpec) :=
  OpenClaim.holds_of_wide 4 Try.f4 rfl rfl rfl rfl rfl rfl rfl ⟨rfl, rfl, rfl, rfl, rfl⟩ rfl rfl rfl rfl rfl (by kernel_rfl) Try.func4 (by kernel_rfl)
    (of_decide_eq_true (by kernel_rfl)) (by unfold Func.isWrapper; first | (rw [if_pos (by decide +kernel)]; kernel_rfl) | (rw [if_neg (by decide +kernel)]; exact ⟨rfl, rfl⟩))
    (fun os started H enc _ => lifted os started H enc)
theorem proved : Rows.FnExactQueueNextSaid := over
#print axioms proved
end Go.Proofs.Ytjajfbgijailmaa.fnExactQueueNext
namespace Go.Proofs.Ytjajfbgijailmaa
/-- The row, under a short name, for the claim. -/
theorem fnExactQueueNext_holds : Rows.FnExactQueueNextSaid := fnExactQueueNext.proved
end Go.Proofs.Ytjajfbgijailmaa
