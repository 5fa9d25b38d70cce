/- The law FnBytesSame: for every input that can be read, the call returns true and every argument reads afterwards as it read before. No further condition. -/
import Derived.Test.YtecniihieninjaaRows
import Derived.Test.YtecniihieninjaaSyPFnBytesSameh
import Derived.Test.YtecniihieninjaaSyT
import Derived.WalkKit
import Derived.ProofKit
import Derived.OpenShut
import Derived.ShutString
import Derived.ChangeOld
import Derived.Below
import Derived.Carry
import Derived.SizedLaws
namespace Go.Proofs.Ytecniihieninjaa.fnBytesSame
open Go.ChangeShapes Go.WideShapes Go.ChangeAt Go.RowKit Go.Sx
open Go.ChangeMaps (open_string shut_string)
set_option linter.unusedVariables false
theorem own : ownKnob Try.prog.godebug = none := by kernel_rfl
theorem laidOut : laidOutB Try.prog = true := by kernel_rfl
theorem b5 {H : Type} (enc : TypeId × Value → H) (W : World) : Br (UU false) enc Try.prog W 5 ((UU false).enc 5) B5 :=
  (br_iso id (br_int Try.underlying5) (fun _ => rfl) (fun _ h => h))
theorem bp0 {H : Type} (enc : TypeId × Value → H) (W : World) : Br (UU false) enc Try.prog W 22 (fun xs => [.row 5 xs]) (fun x => (x.length * 1 ≤ 140737488351232 ∧ ∀ z ∈ x, B5 z)) := (br_slice 1 (uu false) Try.underlying22 (by kernel_rfl) (by decide) (by kernel_rfl) (b5 enc W))
set_option maxRecDepth 100000 in
theorem lifted (os : Os) (started : os.Started) (H : Type) (enc : TypeId × Value → H) :
    ReturnsInHanded {} Try.checked os 7 .any (Rows.fnBytesSameSpec.pre6 enc Try.prog Try.f7 Rows.fnBytesSameRow.domain false) (Rows.fnBytesSameSpec.post enc Try.prog Try.f7 false true false false) := by
  refine returnsInHanded_of_change_sized (C := Try.checked) own started (by kernel_rfl) Try.func7
    (ChangeSpec.witness6 (enc := enc) (C := Try.checked) false ⟨#[], #[.slice none 0 0], []⟩ 8 (by kernel_rfl) (by kernel_rfl) (by kernel_rfl) (by kernel_rfl)) ?_
  intro W base args ds gs before hval0 hW hcnd hsz0 _
  have hsz : (DataW.weightsEach Try.prog (Try.f7.params.toList ++ Rows.fnBytesSameSpec.plain.varTypes Try.prog) (ds ++ gs)).all (· ≤ reachBytes) = true := hsz0
  have hval : ∀ (j : Nat) t v, Try.f7.params[j]? = some t → args[j]? = some v → Value.okWide Try.prog W .any base t v := hval0
  have hW' := hW
  obtain ⟨p, q, hA0, hV, rfl, hfz, hnd⟩ := hW
  have hA : DataW.TrodAll enc Try.prog W 0 (fun _ => true) true Try.f7.params.toList args.toList ds p := hA0
  rw [Try.params7] at hA hval hsz
  obtain ⟨v0, vs0, d0, ds0, p0, q0, hargs, rfl, rfl, h0, r0⟩ := trodAll_cons hA
  obtain ⟨rfl, rfl, rfl⟩ := trodAll_nil r0
  obtain rfl : args = #[v0] := by cases args; simp_all
  obtain ⟨rfl, rfl⟩ := trodVars_none hV
  have k0 := h0
  have lt0 : ∀ x ∈ p0, x.block < W.heap.size := by obtain ⟨m, hm⟩ := k0; exact DataW.trod_lt m _ _ _ hm
  obtain ⟨x0, hK0, hB0⟩ := br_row (bp0 enc W) Try.underlying22 (hval 0 22 v0 rfl rfl) h0 hsz (j := 0) rfl rfl
  clear hA0 hval0 hsz0 hsz hval
  obtain ⟨k, hk⟩ := law_FnBytesSame x0 hB0
  refine (Snd.bool (sndT7 k) (l := [.row 5 x0]) (a := x0) (by rfl) hk (VRs.cons hK0 VRs.nil)).mono fun e W' ⟨he, bel⟩ => ?_
  subst he
  exact ⟨_, rfl, _, _, _, [], _, [], hW', trodAll_mk1 (shut_bool Try.underlying4 _), (trodAll_cons_mk (Below.trod laidOut (by kernel_rfl) (of_decide_eq_true (by kernel_rfl)) k0 bel lt0) trodAll_mk0), rfl, bel.frame _, fun h => by cases h⟩
theorem over : Rows.fnBytesSameRow.holds Try.pinned (OpenSpec.ofChange Rows.fnBytesSameSpec) :=
  OpenClaim.holds_of_wide 7 Try.f7 rfl rfl rfl rfl rfl rfl rfl ⟨rfl, rfl, rfl, rfl, rfl⟩ rfl rfl rfl rfl rfl (by kernel_rfl) Try.func7 (by kernel_rfl)
    (of_decide_eq_true (by kernel_rfl)) (by unfold Func.isWrapper; first | (rw [if_pos (by decide +kernel)]; kernel_rfl) | (rw [if_neg (by decide +kernel)]; exact ⟨rfl, rfl⟩))
    (fun os started H enc _ => lifted os started H enc)
theorem proved : Rows.FnBytesSameSaid := over
#print axioms proved
end Go.Proofs.Ytecniihieninjaa.fnBytesSame
namespace Go.Proofs.Ytecniihieninjaa
/-- The row, under a short name, for the claim. -/
theorem fnBytesSame_holds : Rows.FnBytesSameSaid := fnBytesSame.proved
end Go.Proofs.Ytecniihieninjaa
