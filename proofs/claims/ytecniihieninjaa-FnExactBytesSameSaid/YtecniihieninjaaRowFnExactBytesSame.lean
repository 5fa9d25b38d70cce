/- The law FnExactBytesSame: for every input that can be read, the call returns true and every argument reads afterwards as it read before. No further condition. -/
import Derived.Test.YtecniihieninjaaRows
import Derived.Test.YtecniihieninjaaSxPFnExactBytesSame
import Derived.Test.YtecniihieninjaaSxT
import Derived.WalkKit
import Derived.ProofKit
import Derived.OpenShut
import Derived.ShutString
import Derived.ChangeOld
import Derived.Below
import Derived.Carry
import Derived.SizedLaws
namespace Go.Proofs.Ytecniihieninjaa.fnExactBytesSame
open Go.ChangeShapes Go.WideShapes Go.ChangeAt Go.RowKit Go.Sx
open Go.ChangeMaps (open_string shut_string)
set_option linter.unusedVariables false
theorem own : ownKnob Try.prog.godebug = none := by kernel_rfl
theorem laidOut : laidOutB Try.prog = true := by kernel_rfl
theorem b147 {H : Type} (enc : TypeId × Value → H) (W : World) : Br UU enc Try.prog W 147 (UU.enc 147) B147 :=
  (br_iso (fun q : Int × Int × Bool × Bool => (⟨q.1, q.2.1, q.2.2.1, q.2.2.2⟩ : S147)) (br_struct (tot := 4) Try.underlying147 (by kernel_rfl) (brF_cons (o' := 1) rfl (by kernel_rfl) (br_int Try.underlying3) (brF_cons (o' := 2) rfl (by kernel_rfl) (br_int Try.underlying3) (brF_cons (o' := 3) rfl (by kernel_rfl) (br_bool Try.underlying4) (brF_last rfl (by kernel_rfl) (br_bool Try.underlying4)))))) (fun _ => rfl) (fun _ h => ⟨h.1, h.2.1, h.2.2.1, h.2.2.2⟩))
theorem b3 {H : Type} (enc : TypeId × Value → H) (W : World) : Br UU enc Try.prog W 3 (UU.enc 3) B3 :=
  (br_iso id (br_int Try.underlying3) (fun _ => rfl) (fun _ h => h))
theorem b9 {H : Type} (enc : TypeId × Value → H) (W : World) : Br UU enc Try.prog W 9 (UU.enc 9) B9 :=
  (br_iso id (br_string Try.underlying9) (fun _ => rfl) (fun _ h => h))
theorem b101 {H : Type} (enc : TypeId × Value → H) (W : World) : Br UU enc Try.prog W 101 (UU.enc 101) B101 :=
  (br_iso (fun q : Bool × (List S147) × (List Int) × (List ByteArray) => (⟨q.1, q.2.1, q.2.2.1, q.2.2.2⟩ : S101)) (br_struct (tot := 4) Try.underlying101 (by kernel_rfl) (brF_cons (o' := 1) rfl (by kernel_rfl) (br_bool Try.underlying4) (brF_cons (o' := 2) rfl (by kernel_rfl) (br_slice 24 uu Try.underlying99 (by kernel_rfl) (by decide) (by kernel_rfl) (b147 enc W)) (brF_cons (o' := 3) rfl (by kernel_rfl) (br_slice 8 uu Try.underlying26 (by kernel_rfl) (by decide) (by kernel_rfl) (b3 enc W)) (brF_last rfl (by kernel_rfl) (br_slice 16 uu Try.underlying72 (by kernel_rfl) (by decide) (by kernel_rfl) (b9 enc W))))))) (fun _ => rfl) (fun _ h => ⟨h.1, h.2.1, h.2.2.1, h.2.2.2⟩))
theorem b45 {H : Type} (enc : TypeId × Value → H) (W : World) : Br UU enc Try.prog W 45 (UU.enc 45) B45 :=
  (br_iso (fun q : (List S101) => (⟨q⟩ : S45)) (br_struct (tot := 1) Try.underlying45 (by kernel_rfl) (brF_last rfl (by kernel_rfl) (br_slice 80 uu Try.underlying43 (by kernel_rfl) (by decide) (by kernel_rfl) (b101 enc W)))) (fun _ => rfl) (fun _ h => ⟨h⟩))
set_option maxRecDepth 100000 in
theorem lifted (os : Os) (started : os.Started) (H : Type) (enc : TypeId × Value → H) :
    ReturnsInHanded {} Try.checked os 6 .any (Rows.fnExactBytesSameSpec.pre6 enc Try.prog Try.f6 Rows.fnExactBytesSameRow.domain false) (Rows.fnExactBytesSameSpec.post enc Try.prog Try.f6 false true false false) := by
  refine returnsInHanded_of_change_sized (C := Try.checked) own started (by kernel_rfl) Try.func6
    (ChangeSpec.witness6 (enc := enc) (C := Try.checked) false ⟨#[], #[.agg #[.slice none 0 0], .agg #[.slice none 0 0]], []⟩ 8 (by kernel_rfl) (by kernel_rfl) (by kernel_rfl) (by kernel_rfl)) ?_
  intro W base args ds gs before hval0 hW hcnd hsz0 _
  have hsz : (DataW.weightsEach Try.prog (Try.f6.params.toList ++ Rows.fnExactBytesSameSpec.plain.varTypes Try.prog) (ds ++ gs)).all (· ≤ reachBytes) = true := hsz0
  have hval : ∀ (j : Nat) t v, Try.f6.params[j]? = some t → args[j]? = some v → Value.okWide Try.prog W .any base t v := hval0
  have hW' := hW
  obtain ⟨p, q, hA0, hV, rfl, hfz, hnd⟩ := hW
  have hA : DataW.TrodAll enc Try.prog W 0 (fun _ => true) true Try.f6.params.toList args.toList ds p := hA0
  rw [Try.params6] at hA hval hsz
  obtain ⟨v0, vs0, d0, ds0, p0, q0, hargs, rfl, rfl, h0, r0⟩ := trodAll_cons hA
  obtain ⟨v1, vs1, d1, ds1, p1, q1, rfl, rfl, rfl, h1, r1⟩ := trodAll_cons r0
  obtain ⟨rfl, rfl, rfl⟩ := trodAll_nil r1
  obtain rfl : args = #[v0, v1] := by cases args; simp_all
  obtain ⟨rfl, rfl⟩ := trodVars_none hV
  have k0 := h0
  have lt0 : ∀ x ∈ p0, x.block < W.heap.size := by obtain ⟨m, hm⟩ := k0; exact DataW.trod_lt m _ _ _ hm
  obtain ⟨x0, hK0, hB0⟩ := br_agg (b45 enc W) Try.underlying45 (hval 0 45 v0 rfl rfl) h0 hsz (j := 0) rfl rfl
  have k1 := h1
  have lt1 : ∀ x ∈ p1, x.block < W.heap.size := by obtain ⟨m, hm⟩ := k1; exact DataW.trod_lt m _ _ _ hm
  obtain ⟨x1, hK1, hB1⟩ := br_agg (b45 enc W) Try.underlying45 (hval 1 45 v1 rfl rfl) h1 hsz (j := 1) rfl rfl
  clear hA0 hval0 hsz0 hsz hval
  obtain ⟨k, hk⟩ := law_FnExactBytesSame x0 x1 hB0 hB1
  refine (Snd.bool (snd6 k) (l := [.agg (UU.enc 45 x0), .agg (UU.enc 45 x1)]) (a := (x0, x1)) (by rfl) hk (VRs.cons hK0 (VRs.cons hK1 VRs.nil))).mono fun e W' ⟨he, bel⟩ => ?_
  subst he
  exact ⟨_, rfl, _, _, _, [], _, [], hW', trodAll_mk1 (shut_bool Try.underlying4 _), (trodAll_cons_mk (Below.trod laidOut (by kernel_rfl) (of_decide_eq_true (by kernel_rfl)) k0 bel lt0) (trodAll_cons_mk (Below.trod laidOut (by kernel_rfl) (of_decide_eq_true (by kernel_rfl)) k1 bel lt1) trodAll_mk0)), rfl, bel.frame _, fun h => by cases h⟩
theorem over : Rows.fnExactBytesSameRow.holds Try.pinned (OpenSpec.ofChange Rows.fnExactBytesSameSpec) :=
  OpenClaim.holds_of_wide 6 Try.f6 rfl rfl rfl rfl rfl rfl rfl ⟨rfl, rfl, rfl, rfl, rfl⟩ rfl rfl rfl rfl rfl (by kernel_rfl) Try.func6 (by kernel_rfl)
    (of_decide_eq_true (by kernel_rfl)) (by unfold Func.isWrapper; first | (rw [if_pos (by decide +kernel)]; kernel_rfl) | (rw [if_neg (by decide +kernel)]; exact ⟨rfl, rfl⟩))
    (fun os started H enc _ => lifted os started H enc)
theorem proved : Rows.FnExactBytesSameSaid := over
#print axioms proved
end Go.Proofs.Ytecniihieninjaa.fnExactBytesSame
namespace Go.Proofs.Ytecniihieninjaa
/-- The row, under a short name, for the claim. -/
theorem fnExactBytesSame_holds : Rows.FnExactBytesSameSaid := fnExactBytesSame.proved
end Go.Proofs.Ytecniihieninjaa
