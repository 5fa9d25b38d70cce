/- The law FnFsNew: for every input that can be read, the call returns true and every argument reads afterwards as it read before. No further condition. -/
import Derived.Test.YtpljcphiaajjaaaRows
import Derived.Test.YtpljcphiaajjaaaBr
import Derived.Test.YtpljcphiaajjaaaXFnFsNewx6
import Derived.Test.YtpljcphiaajjaaaBdFnFsNew
import Derived.Test.YtpljcphiaajjaaaPureFnFsNew
import Derived.WalkKit
import Derived.ProofKit
import Derived.OpenShut
import Derived.ShutString
import Derived.ChangeOld
import Derived.Below
import Derived.Carry
import Derived.SizedLaws
namespace Go.Proofs.Ytpljcphiaajjaaa.fnFsNew
open Go.ChangeShapes Go.WideShapes Go.ChangeAt Go.RowKit Go.Proofs.YtpljcphiaajjaaaW.PrintWords Go.Proofs.Ytpljcphiaajjaaa.Br Go.Proofs.Ytpljcphiaajjaaa.XFnFsNew Go.Proofs.Ytpljcphiaajjaaa.BdFnFsNew
open Go.ChangeMaps (open_string shut_string)
set_option linter.unusedVariables false
theorem own : ownKnob Try.prog.godebug = none := by kernel_rfl
theorem laidOut : laidOutB Try.prog = true := by kernel_rfl
theorem bp0 {H : Type} (enc : TypeId × Value → H) (W : World) : Br enc Try.prog W 22 (Kd.slice 5 (Kd.int .u8)) (fun x => x.length * 1 ≤ 140737488351232 ∧ ∀ z ∈ x, (Lit.int .u8 z).wf = true) :=
  br_imp (br_slice 1 Try.underlying22 (by kernel_rfl) (by kernel_rfl) (br_int Try.underlying5)) (fun _ h => h)
set_option maxRecDepth 100000 in
theorem lifted (os : Os) (started : os.Started) (H : Type) (enc : TypeId × Value → H) :
    ReturnsInHanded {} Try.checked os 3 .any (Rows.fnFsNewSpec.pre6 enc Try.prog Try.f3 Rows.fnFsNewRow.domain false) (Rows.fnFsNewSpec.post enc Try.prog Try.f3 false true false false) := by
  refine returnsInHanded_of_change_sized (C := Try.checked) own started (by kernel_rfl) Try.func3
    (ChangeSpec.witness6 (enc := enc) (C := Try.checked) false ⟨#[], #[.slice none 0 0], []⟩ 8 (by kernel_rfl) (by kernel_rfl) (by kernel_rfl) (by kernel_rfl)) ?_
  intro W base args ds gs before hval0 hW hcnd hsz0 _
  have hsz : (DataW.weightsEach Try.prog (Try.f3.params.toList ++ Rows.fnFsNewSpec.plain.varTypes Try.prog) (ds ++ gs)).all (· ≤ reachBytes) = true := hsz0
  have hval : ∀ (j : Nat) t v, Try.f3.params[j]? = some t → args[j]? = some v → Value.okWide Try.prog W .any base t v := hval0
  have hW' := hW
  obtain ⟨p, q, hA0, hV, rfl, hfz, hnd⟩ := hW
  have hA : DataW.TrodAll enc Try.prog W 0 (fun _ => true) true Try.f3.params.toList args.toList ds p := hA0
  rw [Try.params3] at hA hval hsz
  obtain ⟨v0, vs0, d0, ds0, p0, q0, hargs, rfl, rfl, h0, r0⟩ := trodAll_cons hA
  obtain ⟨rfl, rfl, rfl⟩ := trodAll_nil r0
  obtain rfl : args = #[v0] := by cases args; simp_all
  obtain ⟨rfl, rfl⟩ := trodVars_none hV
  have k0 := h0
  have lt0 : ∀ x ∈ p0, x.block < W.heap.size := by obtain ⟨m, hm⟩ := k0; exact DataW.trod_lt m _ _ _ hm
  obtain ⟨l0, A0, c0, hv0, hc0, hr0, hB0⟩ := br_row (bp0 enc W) Try.underlying22 (hval 0 22 v0 rfl rfl) h0 hsz (j := 0) rfl rfl
  subst hv0
  clear hA0 hval0 hsz0 hsz hval
  obtain ⟨k, hk⟩ := Pure.FnFsNew l0 hB0
  refine (laws_FnFsNew.calls (k := k) (l0 := l0) (r := true) (w := W) (A0 := A0) (c0 := c0) (hr0 := hr0) (hc0 := hc0) (h := hk) (hr_ := rfl)).mono fun e W' ⟨he, bel⟩ => ?_
  subst he
  exact ⟨_, rfl, _, _, _, [], _, [], hW', trodAll_mk1 (shut_bool Try.underlying4 _), (trodAll_cons_mk (Below.trod laidOut (by kernel_rfl) (of_decide_eq_true (by kernel_rfl)) k0 bel lt0) trodAll_mk0), rfl, bel.frame _, fun h => by cases h⟩
theorem over : Rows.fnFsNewRow.holds Try.pinned (OpenSpec.ofChange Rows.fnFsNewSpec) :=
  OpenClaim.holds_of_wide 3 Try.f3 rfl rfl rfl rfl rfl rfl rfl ⟨rfl, rfl, rfl, rfl, rfl⟩ rfl rfl rfl rfl rfl (by kernel_rfl) Try.func3 (by kernel_rfl)
    (of_decide_eq_true (by kernel_rfl)) (by unfold Func.isWrapper; first | (rw [if_pos (by decide +kernel)]; kernel_rfl) | (rw [if_neg (by decide +kernel)]; exact ⟨rfl, rfl⟩))
    (fun os started H enc _ => lifted os started H enc)
theorem proved : Rows.FnFsNewSaid := over
#print axioms proved
end Go.Proofs.Ytpljcphiaajjaaa.fnFsNew
namespace Go.Proofs.Ytpljcphiaajjaaa
/-- The row, under a short name, for the claim. -/
theorem fnFsNew_holds : Rows.FnFsNewSaid := fnFsNew.proved
end Go.Proofs.Ytpljcphiaajjaaa
