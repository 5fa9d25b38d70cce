/- The law FnExactCredSignal: for every input that can be read, the call returns true and every argument reads afterwards as it read before. No further condition. -/
import Derived.Test.YtjokfjjdachpiaaRows
import Derived.Test.YtjokfjjdachpiaaBr
import Derived.Test.YtjokfjjdachpiaaPFnExactCredSignalx3
import Derived.Test.YtjokfjjdachpiaaBdFnExactCredSignal
import Derived.Test.YtjokfjjdachpiaaPureFnExactCredSignal
import Derived.WalkKit
import Derived.ProofKit
import Derived.OpenShut
import Derived.ShutString
import Derived.ChangeOld
import Derived.Below
import Derived.Carry
import Derived.SizedLaws
namespace Go.Proofs.Ytjokfjjdachpiaa.fnExactCredSignal
open Go.ChangeShapes Go.WideShapes Go.ChangeAt Go.RowKit Go.Proofs.YtjokfjjdachpiaaW.PrintWords Go.Proofs.Ytjokfjjdachpiaa.Br Go.Proofs.Ytjokfjjdachpiaa.PFnExactCredSignal Go.Proofs.Ytjokfjjdachpiaa.BdFnExactCredSignal
open Go.ChangeMaps (open_string shut_string)
set_option linter.unusedVariables false
theorem own : ownKnob Try.prog.godebug = none := by kernel_rfl
theorem laidOut : laidOutB Try.prog = true := by kernel_rfl
theorem bp0 {H : Type} (enc : TypeId × Value → H) (W : World) : Br enc Try.prog W 31 (Kd.pair (Kd.int .i64) (Kd.pair (Kd.int .i64) (Kd.slice 3 (Kd.int .i64)))) (fun x => (Lit.int .i64 x.1).wf = true ∧ (Lit.int .i64 x.2.1).wf = true ∧ x.2.2.length * 8 ≤ 140737488351232 ∧ ∀ z ∈ x.2.2, (Lit.int .i64 z).wf = true) :=
  br_imp (br_struct Try.underlying31 (by kernel_rfl) (brF_cons (o' := 1) rfl (by kernel_rfl) rfl (br_int Try.underlying3) (brF_cons (o' := 2) rfl (by kernel_rfl) rfl (br_int Try.underlying3) (brF_last rfl (by kernel_rfl) rfl (br_slice 8 Try.underlying23 (by kernel_rfl) (by kernel_rfl) (br_int Try.underlying3)))))) (fun _ h => h)
theorem bp1 {H : Type} (enc : TypeId × Value → H) (W : World) : Br enc Try.prog W 31 (Kd.pair (Kd.int .i64) (Kd.pair (Kd.int .i64) (Kd.slice 3 (Kd.int .i64)))) (fun x => (Lit.int .i64 x.1).wf = true ∧ (Lit.int .i64 x.2.1).wf = true ∧ x.2.2.length * 8 ≤ 140737488351232 ∧ ∀ z ∈ x.2.2, (Lit.int .i64 z).wf = true) :=
  br_imp (br_struct Try.underlying31 (by kernel_rfl) (brF_cons (o' := 1) rfl (by kernel_rfl) rfl (br_int Try.underlying3) (brF_cons (o' := 2) rfl (by kernel_rfl) rfl (br_int Try.underlying3) (brF_last rfl (by kernel_rfl) rfl (br_slice 8 Try.underlying23 (by kernel_rfl) (by kernel_rfl) (br_int Try.underlying3)))))) (fun _ h => h)
set_option maxRecDepth 100000 in
theorem lifted (os : Os) (started : os.Started) (H : Type) (enc : TypeId × Value → H) :
    ReturnsInHanded {} Try.checked os 5 .any (Rows.fnExactCredSignalSpec.pre6 enc Try.prog Try.f5 Rows.fnExactCredSignalRow.domain false) (Rows.fnExactCredSignalSpec.post enc Try.prog Try.f5 false true false false) := by
  refine returnsInHanded_of_change_sized (C := Try.checked) own started (by kernel_rfl) Try.func5
    (ChangeSpec.witness6 (enc := enc) (C := Try.checked) false ⟨#[], #[.agg #[.int .i64 0, .int .i64 0, .slice none 0 0], .agg #[.int .i64 0, .int .i64 0, .slice none 0 0]], []⟩ 8 (by kernel_rfl) (by kernel_rfl) (by kernel_rfl) (by kernel_rfl)) ?_
  intro W base args ds gs before hval0 hW hcnd hsz0 _
  have hsz : (DataW.weightsEach Try.prog (Try.f5.params.toList ++ Rows.fnExactCredSignalSpec.plain.varTypes Try.prog) (ds ++ gs)).all (· ≤ reachBytes) = true := hsz0
  have hval : ∀ (j : Nat) t v, Try.f5.params[j]? = some t → args[j]? = some v → Value.okWide Try.prog W .any base t v := hval0
  have hW' := hW
  obtain ⟨p, q, hA0, hV, rfl, hfz, hnd⟩ := hW
  have hA : DataW.TrodAll enc Try.prog W 0 (fun _ => true) true Try.f5.params.toList args.toList ds p := hA0
  rw [Try.params5] at hA hval hsz
  obtain ⟨v0, vs0, d0, ds0, p0, q0, hargs, rfl, rfl, h0, r0⟩ := trodAll_cons hA
  obtain ⟨v1, vs1, d1, ds1, p1, q1, rfl, rfl, rfl, h1, r1⟩ := trodAll_cons r0
  obtain ⟨rfl, rfl, rfl⟩ := trodAll_nil r1
  obtain rfl : args = #[v0, v1] := by cases args; simp_all
  obtain ⟨rfl, rfl⟩ := trodVars_none hV
  have k0 := h0
  have lt0 : ∀ x ∈ p0, x.block < W.heap.size := by obtain ⟨m, hm⟩ := k0; exact DataW.trod_lt m _ _ _ hm
  obtain ⟨cs0, x0, hv0, hK0, hB0⟩ := br_agg (bp0 enc W) Try.underlying31 (hval 0 31 v0 rfl rfl) h0 hsz (j := 0) rfl rfl
  obtain ⟨a0_0, a0_1, l0_2⟩ := x0
  obtain ⟨_, _, rfl, rfl, ⟨_, _, rfl, rfl, ⟨A0_2, c0_2, rfl, hc0_2, hr0_2⟩⟩⟩ := hK0
  replace hv0 : v0 = .agg #[.int .i64 a0_0, .int .i64 a0_1, .slice A0_2 l0_2.length c0_2] := hv0
  subst hv0
  have k1 := h1
  have lt1 : ∀ x ∈ p1, x.block < W.heap.size := by obtain ⟨m, hm⟩ := k1; exact DataW.trod_lt m _ _ _ hm
  obtain ⟨cs1, x1, hv1, hK1, hB1⟩ := br_agg (bp1 enc W) Try.underlying31 (hval 1 31 v1 rfl rfl) h1 hsz (j := 1) rfl rfl
  obtain ⟨a1_0, a1_1, l1_2⟩ := x1
  obtain ⟨_, _, rfl, rfl, ⟨_, _, rfl, rfl, ⟨A1_2, c1_2, rfl, hc1_2, hr1_2⟩⟩⟩ := hK1
  replace hv1 : v1 = .agg #[.int .i64 a1_0, .int .i64 a1_1, .slice A1_2 l1_2.length c1_2] := hv1
  subst hv1
  clear hA0 hval0 hsz0 hsz hval
  obtain ⟨k, hk⟩ := Pure.FnExactCredSignal a0_0 a0_1 l0_2 a1_0 a1_1 l1_2 hB0 hB1
  refine (laws_FnExactCredSignal.calls (k := k) (a0_0 := a0_0) (a0_1 := a0_1) (l0_2 := l0_2) (a1_0 := a1_0) (a1_1 := a1_1) (l1_2 := l1_2) (r := true) (w := W) (A0_2 := A0_2) (c0_2 := c0_2) (hr0_2 := hr0_2) (hc0_2 := hc0_2) (A1_2 := A1_2) (c1_2 := c1_2) (hr1_2 := hr1_2) (hc1_2 := hc1_2) (h := hk)).mono fun e W' ⟨he, bel⟩ => ?_
  subst he
  exact ⟨_, rfl, _, _, _, [], _, [], hW', trodAll_mk1 (shut_bool Try.underlying4 _), (trodAll_cons_mk (Below.trod laidOut (by kernel_rfl) (of_decide_eq_true (by kernel_rfl)) k0 bel lt0) (trodAll_cons_mk (Below.trod laidOut (by kernel_rfl) (of_decide_eq_true (by kernel_rfl)) k1 bel lt1) trodAll_mk0)), rfl, bel.frame _, fun h => by cases h⟩
theorem over : Rows.fnExactCredSignalRow.holds Try.pinned (OpenSpec.ofChange Rows.fnExactCredSignalSpec) :=
  OpenClaim.holds_of_wide 5 Try.f5 rfl rfl rfl rfl rfl rfl rfl ⟨rfl, rfl, rfl, rfl, rfl⟩ rfl rfl rfl rfl rfl (by kernel_rfl) Try.func5 (by kernel_rfl)
    (of_decide_eq_true (by kernel_rfl)) (by unfold Func.isWrapper; first | (rw [if_pos (by decide +kernel)]; kernel_rfl) | (rw [if_neg (by decide +kernel)]; exact ⟨rfl, rfl⟩))
    (fun os started H enc _ => lifted os started H enc)
theorem proved : Rows.FnExactCredSignalSaid := over
#print axioms proved
end Go.Proofs.Ytjokfjjdachpiaa.fnExactCredSignal
namespace Go.Proofs.Ytjokfjjdachpiaa
/-- The row, under a short name, for the claim. -/
theorem fnExactCredSignal_holds : Rows.FnExactCredSignalSaid := fnExactCredSignal.proved
end Go.Proofs.Ytjokfjjdachpiaa
