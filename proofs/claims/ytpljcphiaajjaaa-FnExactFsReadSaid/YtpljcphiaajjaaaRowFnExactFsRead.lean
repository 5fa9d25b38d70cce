/- The law FnExactFsRead: for every input that can be read, the call returns true and every argument reads afterwards as it read before. No further condition. -/
import Derived.Test.YtpljcphiaajjaaaRows
import Derived.Test.YtpljcphiaajjaaaBr
import Derived.Test.YtpljcphiaajjaaaXFnExactFsReadx11
import Derived.Test.YtpljcphiaajjaaaBdFnExactFsRead
import Derived.Test.YtpljcphiaajjaaaPureFnExactFsRead
import Derived.WalkKit
import Derived.ProofKit
import Derived.OpenShut
import Derived.ShutString
import Derived.ChangeOld
import Derived.Below
import Derived.Carry
import Derived.SizedLaws
namespace Go.Proofs.Ytpljcphiaajjaaa.fnExactFsRead
open Go.ChangeShapes Go.WideShapes Go.ChangeAt Go.RowKit Go.Proofs.YtpljcphiaajjaaaW.PrintWords Go.Proofs.Ytpljcphiaajjaaa.Br Go.Proofs.Ytpljcphiaajjaaa.XFnExactFsRead Go.Proofs.Ytpljcphiaajjaaa.BdFnExactFsRead
open Go.ChangeMaps (open_string shut_string)
set_option linter.unusedVariables false
theorem own : ownKnob Try.prog.godebug = none := by kernel_rfl
theorem laidOut : laidOutB Try.prog = true := by kernel_rfl
instance : Inhabited S126 := ⟨z126⟩
theorem b126 {H : Type} (enc : TypeId × Value → H) (W : World) : Br enc Try.prog W 126 k126 B126 :=
  br_imp (br_iso (fun x : S126 => (x.f0, x.f1)) (fun q => (⟨q.1, q.2⟩ : S126)) (fun _ => rfl) (br_struct Try.underlying126 (by kernel_rfl) (brF_cons (o' := 1) rfl (by kernel_rfl) rfl (br_string Try.underlying9) (brF_last rfl (by kernel_rfl) rfl (br_int Try.underlying3))))) (fun _ h => h)
instance : Inhabited S100 := ⟨z100⟩
theorem b100 {H : Type} (enc : TypeId × Value → H) (W : World) : Br enc Try.prog W 100 k100 B100 :=
  br_imp (br_iso (fun x : S100 => (x.f0, x.f1, x.f2, x.f3, x.f4, x.f5, x.f6, x.f7, x.f8)) (fun q => (⟨q.1, q.2.1, q.2.2.1, q.2.2.2.1, q.2.2.2.2.1, q.2.2.2.2.2.1, q.2.2.2.2.2.2.1, q.2.2.2.2.2.2.2.1, q.2.2.2.2.2.2.2.2⟩ : S100)) (fun _ => rfl) (br_struct Try.underlying100 (by kernel_rfl) (brF_cons (o' := 1) rfl (by kernel_rfl) rfl (br_int Try.underlying3) (brF_cons (o' := 2) rfl (by kernel_rfl) rfl (br_int Try.underlying3) (brF_cons (o' := 3) rfl (by kernel_rfl) rfl (br_int Try.underlying3) (brF_cons (o' := 4) rfl (by kernel_rfl) rfl (br_int Try.underlying3) (brF_cons (o' := 5) rfl (by kernel_rfl) rfl (br_int Try.underlying3) (brF_cons (o' := 6) rfl (by kernel_rfl) rfl (br_int Try.underlying3) (brF_cons (o' := 7) rfl (by kernel_rfl) rfl (br_bool Try.underlying4) (brF_cons (o' := 8) rfl (by kernel_rfl) rfl (br_string Try.underlying9) (brF_last rfl (by kernel_rfl) rfl (br_slice 24 Try.underlying98 (by kernel_rfl) (by kernel_rfl) (b126 enc W))))))))))))) (fun _ h => h)
theorem bp0 {H : Type} (enc : TypeId × Value → H) (W : World) : Br enc Try.prog W 38 (Kd.slice 100 k100) (fun x => x.length * 96 ≤ 140737488351232 ∧ ∀ z ∈ x, B100 z) :=
  br_imp (br_struct Try.underlying38 (by kernel_rfl) (brF_last rfl (by kernel_rfl) rfl (br_slice 96 Try.underlying36 (by kernel_rfl) (by kernel_rfl) (b100 enc W)))) (fun _ h => h)
set_option maxRecDepth 100000 in
theorem lifted (os : Os) (started : os.Started) (H : Type) (enc : TypeId × Value → H) :
    ReturnsInHanded {} Try.checked os 5 .any (Rows.fnExactFsReadSpec.pre6 enc Try.prog Try.f5 Rows.fnExactFsReadRow.domain false) (Rows.fnExactFsReadSpec.post enc Try.prog Try.f5 false true false false) := by
  refine returnsInHanded_of_change_sized (C := Try.checked) own started (by kernel_rfl) Try.func5
    (ChangeSpec.witness6 (enc := enc) (C := Try.checked) false ⟨#[], #[.agg #[.slice none 0 0], .int .i64 0, .int .i64 0, .int .i64 0], []⟩ 8 (by kernel_rfl) (by kernel_rfl) (by kernel_rfl) (by kernel_rfl)) ?_
  intro W base args ds gs before hval0 hW hcnd hsz0 _
  have hsz : (DataW.weightsEach Try.prog (Try.f5.params.toList ++ Rows.fnExactFsReadSpec.plain.varTypes Try.prog) (ds ++ gs)).all (· ≤ reachBytes) = true := hsz0
  have hval : ∀ (j : Nat) t v, Try.f5.params[j]? = some t → args[j]? = some v → Value.okWide Try.prog W .any base t v := hval0
  have hW' := hW
  obtain ⟨p, q, hA0, hV, rfl, hfz, hnd⟩ := hW
  have hA : DataW.TrodAll enc Try.prog W 0 (fun _ => true) true Try.f5.params.toList args.toList ds p := hA0
  rw [Try.params5] at hA hval hsz
  obtain ⟨v0, vs0, d0, ds0, p0, q0, hargs, rfl, rfl, h0, r0⟩ := trodAll_cons hA
  obtain ⟨v1, vs1, d1, ds1, p1, q1, rfl, rfl, rfl, h1, r1⟩ := trodAll_cons r0
  obtain ⟨v2, vs2, d2, ds2, p2, q2, rfl, rfl, rfl, h2, r2⟩ := trodAll_cons r1
  obtain ⟨v3, vs3, d3, ds3, p3, q3, rfl, rfl, rfl, h3, r3⟩ := trodAll_cons r2
  obtain ⟨rfl, rfl, rfl⟩ := trodAll_nil r3
  obtain rfl : args = #[v0, v1, v2, v3] := by cases args; simp_all
  obtain ⟨rfl, rfl⟩ := trodVars_none hV
  have k0 := h0
  have lt0 : ∀ x ∈ p0, x.block < W.heap.size := by obtain ⟨m, hm⟩ := k0; exact DataW.trod_lt m _ _ _ hm
  obtain ⟨cs0, x0, hv0, hK0, hB0⟩ := br_agg (bp0 enc W) Try.underlying38 (hval 0 38 v0 rfl rfl) h0 hsz (j := 0) rfl rfl
  obtain ⟨l0_0, e0⟩ : ∃ z, z = x0 := ⟨_, rfl⟩
  subst e0
  obtain ⟨A0_0, c0_0, rfl, hc0_0, hr0_0⟩ := hK0
  replace hv0 : v0 = .agg #[.slice A0_0 l0_0.length c0_0] := hv0
  subst hv0
  obtain ⟨a1, rfl, rfl, rfl, w1⟩ := open_int Try.underlying3 (hval 1 3 v1 rfl rfl) h1
  obtain ⟨a2, rfl, rfl, rfl, w2⟩ := open_int Try.underlying3 (hval 2 3 v2 rfl rfl) h2
  obtain ⟨a3, rfl, rfl, rfl, w3⟩ := open_int Try.underlying3 (hval 3 3 v3 rfl rfl) h3
  clear hA0 hval0 hsz0 hsz hval
  obtain ⟨k, hk⟩ := Pure.FnExactFsRead l0_0 a1 a2 a3 hB0 w1 w2 w3
  refine (laws_FnExactFsRead.calls (k := k) (l0_0 := l0_0) (a1 := a1) (a2 := a2) (a3 := a3) (r := true) (w := W) (A0_0 := A0_0) (c0_0 := c0_0) (hr0_0 := hr0_0) (hc0_0 := hc0_0) (h := hk) (hr_ := rfl)).mono fun e W' ⟨he, bel⟩ => ?_
  subst he
  exact ⟨_, rfl, _, _, _, [], _, [], hW', trodAll_mk1 (shut_bool Try.underlying4 _), (trodAll_cons_mk (Below.trod laidOut (by kernel_rfl) (of_decide_eq_true (by kernel_rfl)) k0 bel lt0) (trodAll_cons_mk (shut_int Try.underlying3 w1) (trodAll_cons_mk (shut_int Try.underlying3 w2) (trodAll_cons_mk (shut_int Try.underlying3 w3) trodAll_mk0)))), rfl, bel.frame _, fun h => by cases h⟩
theorem over : Rows.fnExactFsReadRow.holds Try.pinned (OpenSpec.ofChange Rows.fnExactFsReadSpec) :=
  OpenClaim.holds_of_wide 5 Try.f5 rfl rfl rfl rfl rfl rfl rfl ⟨rfl, rfl, rfl, rfl, rfl⟩ rfl rfl rfl rfl rfl (by kernel_rfl) Try.func5 (by kernel_rfl)
    (of_decide_eq_true (by kernel_rfl)) (by unfold Func.isWrapper; first | (rw [if_pos (by decide +kernel)]; kernel_rfl) | (rw [if_neg (by decide +kernel)]; exact ⟨rfl, rfl⟩))
    (fun os started H enc _ => lifted os started H enc)
theorem proved : Rows.FnExactFsReadSaid := over
#print axioms proved
end Go.Proofs.Ytpljcphiaajjaaa.fnExactFsRead
namespace Go.Proofs.Ytpljcphiaajjaaa
/-- The row, under a short name, for the claim. -/
theorem fnExactFsRead_holds : Rows.FnExactFsReadSaid := fnExactFsRead.proved
end Go.Proofs.Ytpljcphiaajjaaa
