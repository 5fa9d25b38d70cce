/- The law FnExactPagesGet: for every input that can be read, the call returns true and every argument reads afterwards as it read before. No further condition. -/
import Derived.Test.YtahncndhlpdegaaRows
import Derived.Test.YtahncndhlpdegaaBr
import Derived.Test.YtahncndhlpdegaaPFnExactPagesGetx4
import Derived.Test.YtahncndhlpdegaaBdFnExactPagesGet
import Derived.Test.YtahncndhlpdegaaPureFnExactPagesGet
import Derived.WalkKit
import Derived.ProofKit
import Derived.OpenShut
import Derived.ShutString
import Derived.ChangeOld
import Derived.Below
import Derived.Carry
import Derived.SizedLaws
namespace Go.Proofs.Ytahncndhlpdegaa.fnExactPagesGet
open Go.ChangeShapes Go.WideShapes Go.ChangeAt Go.RowKit Go.Proofs.YtahncndhlpdegaaW.PrintWords Go.Proofs.Ytahncndhlpdegaa.Br Go.Proofs.Ytahncndhlpdegaa.PFnExactPagesGet Go.Proofs.Ytahncndhlpdegaa.BdFnExactPagesGet
open Go.ChangeMaps (open_string shut_string)
set_option linter.unusedVariables false
theorem own : ownKnob Try.prog.godebug = none := by kernel_rfl
theorem laidOut : laidOutB Try.prog = true := by kernel_rfl
theorem bp0 {H : Type} (enc : TypeId × Value → H) (W : World) : Br enc Try.prog W 36 (Kd.pair (Kd.slice 9 Kd.string) (Kd.slice 3 (Kd.int .i64))) (fun x => (x.1.length * 16 ≤ 140737488351232 ∧ ∀ z ∈ x.1, z.size ≤ 140737488351232) ∧ x.2.length * 8 ≤ 140737488351232 ∧ ∀ z ∈ x.2, (Lit.int .i64 z).wf = true) :=
  br_imp (br_struct Try.underlying36 (by kernel_rfl) (brF_cons (o' := 1) rfl (by kernel_rfl) rfl (br_slice 16 Try.underlying24 (by kernel_rfl) (by kernel_rfl) (br_string Try.underlying9)) (brF_last rfl (by kernel_rfl) rfl (br_slice 8 Try.underlying25 (by kernel_rfl) (by kernel_rfl) (br_int Try.underlying3))))) (fun _ h => h)
set_option maxRecDepth 100000 in
theorem lifted (os : Os) (started : os.Started) (H : Type) (enc : TypeId × Value → H) :
    ReturnsInHanded {} Try.checked os 8 .any (Rows.fnExactPagesGetSpec.pre6 enc Try.prog Try.f8 Rows.fnExactPagesGetRow.domain false) (Rows.fnExactPagesGetSpec.post enc Try.prog Try.f8 false true false false) := by
  refine returnsInHanded_of_change_sized (C := Try.checked) own started (by kernel_rfl) Try.func8
    (ChangeSpec.witness6 (enc := enc) (C := Try.checked) false ⟨#[], #[.agg #[.slice none 0 0, .slice none 0 0], .int .i64 0], []⟩ 8 (by kernel_rfl) (by kernel_rfl) (by kernel_rfl) (by kernel_rfl)) ?_
  intro W base args ds gs before hval0 hW hcnd hsz0 _
  have hsz : (DataW.weightsEach Try.prog (Try.f8.params.toList ++ Rows.fnExactPagesGetSpec.plain.varTypes Try.prog) (ds ++ gs)).all (· ≤ reachBytes) = true := hsz0
  have hval : ∀ (j : Nat) t v, Try.f8.params[j]? = some t → args[j]? = some v → Value.okWide Try.prog W .any base t v := hval0
  have hW' := hW
  obtain ⟨p, q, hA0, hV, rfl, hfz, hnd⟩ := hW
  have hA : DataW.TrodAll enc Try.prog W 0 (fun _ => true) true Try.f8.params.toList args.toList ds p := hA0
  rw [Try.params8] at hA hval hsz
  obtain ⟨v0, vs0, d0, ds0, p0, q0, hargs, rfl, rfl, h0, r0⟩ := trodAll_cons hA
  obtain ⟨v1, vs1, d1, ds1, p1, q1, rfl, rfl, rfl, h1, r1⟩ := trodAll_cons r0
  obtain ⟨rfl, rfl, rfl⟩ := trodAll_nil r1
  obtain rfl : args = #[v0, v1] := by cases args; simp_all
  obtain ⟨rfl, rfl⟩ := trodVars_none hV
  have k0 := h0
  have lt0 : ∀ x ∈ p0, x.block < W.heap.size := by obtain ⟨m, hm⟩ := k0; exact DataW.trod_lt m _ _ _ hm
  obtain ⟨cs0, x0, hv0, hK0, hB0⟩ := br_agg (bp0 enc W) Try.underlying36 (hval 0 36 v0 rfl rfl) h0 hsz (j := 0) rfl rfl
  obtain ⟨l0_0, l0_1⟩ := x0
  obtain ⟨_, _, rfl, ⟨A0_0, c0_0, rfl, hc0_0, hr0_0⟩, ⟨A0_1, c0_1, rfl, hc0_1, hr0_1⟩⟩ := hK0
  replace hv0 : v0 = .agg #[.slice A0_0 l0_0.length c0_0, .slice A0_1 l0_1.length c0_1] := hv0
  subst hv0
  obtain ⟨a1, rfl, rfl, rfl, w1⟩ := open_int Try.underlying3 (hval 1 3 v1 rfl rfl) h1
  clear hA0 hval0 hsz0 hsz hval
  obtain ⟨k, hk⟩ := Pure.FnExactPagesGet l0_0 l0_1 a1 hB0 w1
  refine (laws_FnExactPagesGet.calls (k := k) (l0_0 := l0_0) (l0_1 := l0_1) (a1 := a1) (r := true) (w := W) (A0_0 := A0_0) (c0_0 := c0_0) (hr0_0 := hr0_0) (hc0_0 := hc0_0) (A0_1 := A0_1) (c0_1 := c0_1) (hr0_1 := hr0_1) (hc0_1 := hc0_1) (h := hk)).mono fun e W' ⟨he, bel⟩ => ?_
  subst he
  exact ⟨_, rfl, _, _, _, [], _, [], hW', trodAll_mk1 (shut_bool Try.underlying4 _), (trodAll_cons_mk (Below.trod laidOut (by kernel_rfl) (of_decide_eq_true (by kernel_rfl)) k0 bel lt0) (trodAll_cons_mk (shut_int Try.underlying3 w1) trodAll_mk0)), rfl, bel.frame _, fun h => by cases h⟩
theorem over : Rows.fnExactPagesGetRow.holds Try.pinned (OpenSpec.ofChange Rows.fnExactPagesGetSpec) :=
  OpenClaim.holds_of_wide 8 Try.f8 rfl rfl rfl rfl rfl rfl rfl ⟨rfl, rfl, rfl, rfl, rfl⟩ rfl rfl rfl rfl rfl (by kernel_rfl) Try.func8 (by kernel_rfl)
    (of_decide_eq_true (by kernel_rfl)) (by unfold Func.isWrapper; first | (rw [if_pos (by decide +kernel)]; kernel_rfl) | (rw [if_neg (by decide +kernel)]; exact ⟨rfl, rfl⟩))
    (fun os started H enc _ => lifted os started H enc)
theorem proved : Rows.FnExactPagesGetSaid := over
#print axioms proved
end Go.Proofs.Ytahncndhlpdegaa.fnExactPagesGet
namespace Go.Proofs.Ytahncndhlpdegaa
/-- The row, under a short name, for the claim. -/
theorem fnExactPagesGet_holds : Rows.FnExactPagesGetSaid := fnExactPagesGet.proved
end Go.Proofs.Ytahncndhlpdegaa
