/- The law FnExactPipeLeave: for every input that can be read, the call returns true and every argument reads afterwards as it read before. No further condition. -/
import Derived.Test.YtkjijijhecbigaaRows
import Derived.Test.YtkjijijhecbigaaBr
import Derived.Test.YtkjijijhecbigaaXFnExactPipeLeavex1
import Derived.Test.YtkjijijhecbigaaBdFnExactPipeLeave
import Derived.Test.YtkjijijhecbigaaPureFnExactPipeLeave
import Derived.WalkKit
import Derived.ProofKit
import Derived.OpenShut
import Derived.ShutString
import Derived.ChangeOld
import Derived.Below
import Derived.Carry
import Derived.SizedLaws
namespace Go.Proofs.Ytkjijijhecbigaa.fnExactPipeLeave
open Go.ChangeShapes Go.WideShapes Go.ChangeAt Go.RowKit Go.Proofs.YtkjijijhecbigaaW.PrintWords Go.Proofs.Ytkjijijhecbigaa.Br Go.Proofs.Ytkjijijhecbigaa.XFnExactPipeLeave Go.Proofs.Ytkjijijhecbigaa.BdFnExactPipeLeave
open Go.ChangeMaps (open_string shut_string)
set_option linter.unusedVariables false
theorem own : ownKnob Try.prog.godebug = none := by kernel_rfl
theorem laidOut : laidOutB Try.prog = true := by kernel_rfl
theorem bp0 {H : Type} (enc : TypeId × Value → H) (W : World) : Br enc Try.prog W 23 (Kd.pair Kd.string (Kd.pair (Kd.int .i64) (Kd.int .i64))) (fun x => x.1.size ≤ 140737488351232 ∧ (Lit.int .i64 x.2.1).wf = true ∧ (Lit.int .i64 x.2.2).wf = true) :=
  br_imp (br_struct Try.underlying23 (by kernel_rfl) (brF_cons (o' := 1) rfl (by kernel_rfl) rfl (br_string Try.underlying9) (brF_cons (o' := 2) rfl (by kernel_rfl) rfl (br_int Try.underlying3) (brF_last rfl (by kernel_rfl) rfl (br_int Try.underlying3))))) (fun _ h => h)
set_option maxRecDepth 100000 in
theorem lifted (os : Os) (started : os.Started) (H : Type) (enc : TypeId × Value → H) :
    ReturnsInHanded {} Try.checked os 4 .any (Rows.fnExactPipeLeaveSpec.pre6 enc Try.prog Try.f4 Rows.fnExactPipeLeaveRow.domain false) (Rows.fnExactPipeLeaveSpec.post enc Try.prog Try.f4 false true false false) := by
  refine returnsInHanded_of_change_sized (C := Try.checked) own started (by kernel_rfl) Try.func4
    (ChangeSpec.witness6 (enc := enc) (C := Try.checked) false ⟨#[], #[.agg #[.string ByteArray.empty, .int .i64 0, .int .i64 0], .bool false], []⟩ 8 (by kernel_rfl) (by kernel_rfl) (by kernel_rfl) (by kernel_rfl)) ?_
  intro W base args ds gs before hval0 hW hcnd hsz0 _
  have hsz : (DataW.weightsEach Try.prog (Try.f4.params.toList ++ Rows.fnExactPipeLeaveSpec.plain.varTypes Try.prog) (ds ++ gs)).all (· ≤ reachBytes) = true := hsz0
  have hval : ∀ (j : Nat) t v, Try.f4.params[j]? = some t → args[j]? = some v → Value.okWide Try.prog W .any base t v := hval0
  have hW' := hW
  obtain ⟨p, q, hA0, hV, rfl, hfz, hnd⟩ := hW
  have hA : DataW.TrodAll enc Try.prog W 0 (fun _ => true) true Try.f4.params.toList args.toList ds p := hA0
  rw [Try.params4] at hA hval hsz
  obtain ⟨v0, vs0, d0, ds0, p0, q0, hargs, rfl, rfl, h0, r0⟩ := trodAll_cons hA
  obtain ⟨v1, vs1, d1, ds1, p1, q1, rfl, rfl, rfl, h1, r1⟩ := trodAll_cons r0
  obtain ⟨rfl, rfl, rfl⟩ := trodAll_nil r1
  obtain rfl : args = #[v0, v1] := by cases args; simp_all
  obtain ⟨rfl, rfl⟩ := trodVars_none hV
  have k0 := h0
  have lt0 : ∀ x ∈ p0, x.block < W.heap.size := by obtain ⟨m, hm⟩ := k0; exact DataW.trod_lt m _ _ _ hm
  obtain ⟨cs0, x0, hv0, hK0, hB0⟩ := br_agg (bp0 enc W) Try.underlying23 (hval 0 23 v0 rfl rfl) h0 hsz (j := 0) rfl rfl
  obtain ⟨a0_0, a0_1, a0_2⟩ := x0
  obtain ⟨_, _, rfl, rfl, ⟨_, _, rfl, rfl, rfl⟩⟩ := hK0
  replace hv0 : v0 = .agg #[.string a0_0, .int .i64 a0_1, .int .i64 a0_2] := hv0
  subst hv0
  obtain ⟨a1, rfl, rfl, rfl⟩ := open_bool Try.underlying4 (hval 1 4 v1 rfl rfl) h1
  clear hA0 hval0 hsz0 hsz hval
  have hk := Pure.FnExactPipeLeave a0_0 a0_1 a0_2 a1 hB0
  refine (laws_FnExactPipeLeave.calls (a0_0 := a0_0) (a0_1 := a0_1) (a0_2 := a0_2) (a1 := a1) (r := true) (w := W)  (h := hk) (hr_ := rfl)).mono fun e W' ⟨he, bel⟩ => ?_
  subst he
  exact ⟨_, rfl, _, _, _, [], _, [], hW', trodAll_mk1 (shut_bool Try.underlying4 _), (trodAll_cons_mk (Below.trod laidOut (by kernel_rfl) (of_decide_eq_true (by kernel_rfl)) k0 bel lt0) (trodAll_cons_mk (shut_bool Try.underlying4 _) trodAll_mk0)), rfl, bel.frame _, fun h => by cases h⟩
theorem over : Rows.fnExactPipeLeaveRow.holds Try.pinned (OpenSpec.ofChange Rows.fnExactPipeLeaveSpec) :=
  OpenClaim.holds_of_wide 4 Try.f4 rfl rfl rfl rfl rfl rfl rfl ⟨rfl, rfl, rfl, rfl, rfl⟩ rfl rfl rfl rfl rfl (by kernel_rfl) Try.func4 (by kernel_rfl)
    (of_decide_eq_true (by kernel_rfl)) (by unfold Func.isWrapper; first | (rw [if_pos (by decide +kernel)]; kernel_rfl) | (rw [if_neg (by decide +kernel)]; exact ⟨rfl, rfl⟩))
    (fun os started H enc _ => lifted os started H enc)
theorem proved : Rows.FnExactPipeLeaveSaid := over
#print axioms proved
end Go.Proofs.Ytkjijijhecbigaa.fnExactPipeLeave
namespace Go.Proofs.Ytkjijijhecbigaa
/-- The row, under a short name, for the claim. -/
theorem fnExactPipeLeave_holds : Rows.FnExactPipeLeaveSaid := fnExactPipeLeave.proved
end Go.Proofs.Ytkjijijhecbigaa
