/- The law FnExactVfsPath: for every input that can be read, the call returns true and every argument reads afterwards as it read before. No further condition. -/
import Derived.Test.YtjjblclmpjaegaaRows
import Derived.Test.YtjjblclmpjaegaaSxPFnExactVfsPathi
import Derived.Test.YtjjblclmpjaegaaSxT
import Derived.WalkKit
import Derived.ProofKit
import Derived.OpenShut
import Derived.ShutString
import Derived.ChangeOld
import Derived.Below
import Derived.Carry
import Derived.SizedLaws
namespace Go.Proofs.Ytjjblclmpjaegaa.fnExactVfsPath
open Go.ChangeShapes Go.WideShapes Go.ChangeAt Go.RowKit Go.Sx
open Go.ChangeMaps (open_string shut_string)
set_option linter.unusedVariables false
theorem own : ownKnob Try.prog.godebug = none := by kernel_rfl
theorem laidOut : laidOutB Try.prog = true := by kernel_rfl
theorem b94 {H : Type} (enc : TypeId × Value → H) (W : World) : Br UU enc Try.prog W 94 (UU.enc 94) B94 :=
  (br_iso (fun q : ByteArray × Int => (⟨q.1, q.2⟩ : S94)) (br_struct (tot := 2) Try.underlying94 (by kernel_rfl) (brF_cons (o' := 1) rfl (by kernel_rfl) (br_string Try.underlying9) (brF_last rfl (by kernel_rfl) (br_int Try.underlying3)))) (fun _ => rfl) (fun _ h => ⟨h.1, h.2⟩))
theorem b86 {H : Type} (enc : TypeId × Value → H) (W : World) : Br UU enc Try.prog W 86 (UU.enc 86) B86 :=
  (br_iso (fun q : Int × Int × Int × Int × Int × Int × Bool × ByteArray × (List S94) => (⟨q.1, q.2.1, q.2.2.1, q.2.2.2.1, q.2.2.2.2.1, q.2.2.2.2.2.1, q.2.2.2.2.2.2.1, q.2.2.2.2.2.2.2.1, q.2.2.2.2.2.2.2.2⟩ : S86)) (br_struct (tot := 9) Try.underlying86 (by kernel_rfl) (brF_cons (o' := 1) rfl (by kernel_rfl) (br_int Try.underlying3) (brF_cons (o' := 2) rfl (by kernel_rfl) (br_int Try.underlying3) (brF_cons (o' := 3) rfl (by kernel_rfl) (br_int Try.underlying3) (brF_cons (o' := 4) rfl (by kernel_rfl) (br_int Try.underlying3) (brF_cons (o' := 5) rfl (by kernel_rfl) (br_int Try.underlying3) (brF_cons (o' := 6) rfl (by kernel_rfl) (br_int Try.underlying3) (brF_cons (o' := 7) rfl (by kernel_rfl) (br_bool Try.underlying4) (brF_cons (o' := 8) rfl (by kernel_rfl) (br_string Try.underlying9) (brF_last rfl (by kernel_rfl) (br_slice 24 uu Try.underlying84 (by kernel_rfl) (by decide) (by kernel_rfl) (b94 enc W)))))))))))) (fun _ => rfl) (fun _ h => ⟨h.1, h.2.1, h.2.2.1, h.2.2.2.1, h.2.2.2.2.1, h.2.2.2.2.2.1, h.2.2.2.2.2.2.1, h.2.2.2.2.2.2.2.1, h.2.2.2.2.2.2.2.2⟩))
theorem b63 {H : Type} (enc : TypeId × Value → H) (W : World) : Br UU enc Try.prog W 63 (UU.enc 63) B63 :=
  (br_iso (fun q : (List S86) => (⟨q⟩ : S63)) (br_struct (tot := 1) Try.underlying63 (by kernel_rfl) (brF_last rfl (by kernel_rfl) (br_slice 96 uu Try.underlying61 (by kernel_rfl) (by decide) (by kernel_rfl) (b86 enc W)))) (fun _ => rfl) (fun _ h => ⟨h⟩))
theorem b24 {H : Type} (enc : TypeId × Value → H) (W : World) : Br UU enc Try.prog W 24 (UU.enc 24) B24 :=
  (br_iso (fun q : (List S63) × Int => (⟨q.1, q.2⟩ : S24)) (br_struct (tot := 2) Try.underlying24 (by kernel_rfl) (brF_cons (o' := 1) rfl (by kernel_rfl) (br_slice 24 uu Try.underlying22 (by kernel_rfl) (by decide) (by kernel_rfl) (b63 enc W)) (brF_last rfl (by kernel_rfl) (br_int Try.underlying3)))) (fun _ => rfl) (fun _ h => ⟨h.1, h.2⟩))
theorem b34 {H : Type} (enc : TypeId × Value → H) (W : World) : Br UU enc Try.prog W 34 (UU.enc 34) B34 :=
  (br_iso (fun q : Int × Int => (⟨q.1, q.2⟩ : S34)) (br_struct (tot := 2) Try.underlying34 (by kernel_rfl) (brF_cons (o' := 1) rfl (by kernel_rfl) (br_int Try.underlying3) (brF_last rfl (by kernel_rfl) (br_int Try.underlying3)))) (fun _ => rfl) (fun _ h => ⟨h.1, h.2⟩))
set_option maxRecDepth 100000 in
theorem lifted (os : Os) (started : os.Started) (H : Type) (enc : TypeId × Value → H) :
    ReturnsInHanded {} Try.checked os 4 .any (Rows.fnExactVfsPathSpec.pre6 enc Try.prog Try.f4 Rows.fnExactVfsPathRow.domain false) (Rows.fnExactVfsPathSpec.post enc Try.prog Try.f4 false true false false) := by
  refine returnsInHanded_of_change_sized (C := Try.checked) own started (by kernel_rfl) Try.func4
    (ChangeSpec.witness6 (enc := enc) (C := Try.checked) false ⟨#[], #[.agg #[.slice none 0 0, .int .i64 0], .agg #[.int .i64 0, .int .i64 0]], []⟩ 8 (by kernel_rfl) (by kernel_rfl) (by kernel_rfl) (by kernel_rfl)) ?_
  intro W base args ds gs before hval0 hW hcnd hsz0 _
  have hsz : (DataW.weightsEach Try.prog (Try.f4.params.toList ++ Rows.fnExactVfsPathSpec.plain.varTypes Try.prog) (ds ++ gs)).all (· ≤ reachBytes) = true := hsz0
  have hval : ∀ (j : Nat) t v, Try.f4.params[j]? = some t → args[j]? = some v → Value.okWide Try.prog W .any base t v := hval0
  have hW' := hW
  obtain ⟨p, q, hA0, hV, rfl, hfz, hnd⟩ := hW
  have hA : DataW.TrodAll enc Try.prog W 0 (fun _ => true) true Try.f4.params.toList args.toList ds p := hA0
  rw [Try.params4] at hA hval hsz
  obtain ⟨v0, vs0, d0, ds0, p0, q0, hargs, rfl, rfl, h0, r0⟩ := trodAll_cons hA
  obtain ⟨v1, vs1, d1, ds1, p1, q1, rfl, rfl, rfl, h1, r1⟩ := trodAll_cons r0
  obtain ⟨rfl, rfl, rfl⟩ := trodAll_nil r1
  obtain rfl : args = #[v0, v1] := by cases args; simp_all
  obtain ⟨rfl, rfl⟩ := trodVars_none hV
  have k0 := h0
  have lt0 : ∀ x ∈ p0, x.block < W.heap.size := by obtain ⟨m, hm⟩ := k0; exact DataW.trod_lt m _ _ _ hm
  obtain ⟨x0, hK0, hB0⟩ := br_agg (b24 enc W) Try.underlying24 (hval 0 24 v0 rfl rfl) h0 hsz (j := 0) rfl rfl
  have k1 := h1
  have lt1 : ∀ x ∈ p1, x.block < W.heap.size := by obtain ⟨m, hm⟩ := k1; exact DataW.trod_lt m _ _ _ hm
  obtain ⟨x1, hK1, hB1⟩ := br_agg (b34 enc W) Try.underlying34 (hval 1 34 v1 rfl rfl) h1 hsz (j := 1) rfl rfl
  clear hA0 hval0 hsz0 hsz hval
  obtain ⟨k, hk⟩ := law_FnExactVfsPath x0 x1 hB0 hB1
  refine (Snd.bool (snd4 k) (l := [.agg (UU.enc 24 x0), .agg (UU.enc 34 x1)]) (a := (x0, x1)) (by rfl) hk (VRs.cons hK0 (VRs.cons hK1 VRs.nil))).mono fun e W' ⟨he, bel⟩ => ?_
  subst he
  exact ⟨_, rfl, _, _, _, [], _, [], hW', trodAll_mk1 (shut_bool Try.underlying4 _), (trodAll_cons_mk (Below.trod laidOut (by kernel_rfl) (of_decide_eq_true (by kernel_rfl)) k0 bel lt0) (trodAll_cons_mk (Below.trod laidOut (by kernel_rfl) (of_decide_eq_true (by kernel_rfl)) k1 bel lt1) trodAll_mk0)), rfl, bel.frame _, fun h => by cases h⟩
theorem over : Rows.fnExactVfsPathRow.holds Try.pinned (OpenSpec.ofChange Rows.fnExactVfsPathSpec) :=
  OpenClaim.holds_of_wide 4 Try.f4 rfl rfl rfl rfl rfl rfl rfl ⟨rfl, rfl, rfl, rfl, rfl⟩ rfl rfl rfl rfl rfl (by kernel_rfl) Try.func4 (by kernel_rfl)
    (of_decide_eq_true (by kernel_rfl)) (by unfold Func.isWrapper; first | (rw [if_pos (by decide +kernel)]; kernel_rfl) | (rw [if_neg (by decide +kernel)]; exact ⟨rfl, rfl⟩))
    (fun os started H enc _ => lifted os started H enc)
theorem proved : Rows.FnExactVfsPathSaid := over
#print axioms proved
end Go.Proofs.Ytjjblclmpjaegaa.fnExactVfsPath
namespace Go.Proofs.Ytjjblclmpjaegaa
/-- The row, under a short name, for the claim. -/
theorem fnExactVfsPath_holds : Rows.FnExactVfsPathSaid := fnExactVfsPath.proved
end Go.Proofs.Ytjjblclmpjaegaa
