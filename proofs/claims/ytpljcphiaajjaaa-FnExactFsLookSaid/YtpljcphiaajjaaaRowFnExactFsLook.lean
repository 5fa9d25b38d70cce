/- The law FnExactFsLook: for every input that can be read, the call returns true and every argument reads afterwards as it read before. No further condition. -/
import Derived.Test.YtpljcphiaajjaaaRows
import Derived.Test.YtpljcphiaajjaaaSxPFnExactFsLooki
import Derived.Test.YtpljcphiaajjaaaSxT
import Derived.WalkKit
import Derived.ProofKit
import Derived.OpenShut
import Derived.ShutString
import Derived.ChangeOld
import Derived.Below
import Derived.Carry
import Derived.SizedLaws
namespace Go.Proofs.Ytpljcphiaajjaaa.fnExactFsLook
open Go.ChangeShapes Go.WideShapes Go.ChangeAt Go.RowKit Go.Sx
open Go.ChangeMaps (open_string shut_string)
set_option linter.unusedVariables false
theorem own : ownKnob Try.prog.godebug = none := by kernel_rfl
theorem laidOut : laidOutB Try.prog = true := by kernel_rfl
theorem b126 {H : Type} (enc : TypeId × Value → H) (W : World) : Br UU enc Try.prog W 126 (UU.enc 126) B126 :=
  (br_iso (fun q : ByteArray × Int => (⟨q.1, q.2⟩ : S47)) (br_struct (tot := 2) Try.underlying126 (by kernel_rfl) (brF_cons (o' := 1) rfl (by kernel_rfl) (br_string Try.underlying9) (brF_last rfl (by kernel_rfl) (br_int Try.underlying3)))) (fun _ => rfl) (fun _ h => ⟨h.1, h.2⟩))
theorem b100 {H : Type} (enc : TypeId × Value → H) (W : World) : Br UU enc Try.prog W 100 (UU.enc 100) B100 :=
  (br_iso (fun q : Int × Int × Int × Int × Int × Int × Bool × ByteArray × (List S47) => (⟨q.1, q.2.1, q.2.2.1, q.2.2.2.1, q.2.2.2.2.1, q.2.2.2.2.2.1, q.2.2.2.2.2.2.1, q.2.2.2.2.2.2.2.1, q.2.2.2.2.2.2.2.2⟩ : S34)) (br_struct (tot := 9) Try.underlying100 (by kernel_rfl) (brF_cons (o' := 1) rfl (by kernel_rfl) (br_int Try.underlying3) (brF_cons (o' := 2) rfl (by kernel_rfl) (br_int Try.underlying3) (brF_cons (o' := 3) rfl (by kernel_rfl) (br_int Try.underlying3) (brF_cons (o' := 4) rfl (by kernel_rfl) (br_int Try.underlying3) (brF_cons (o' := 5) rfl (by kernel_rfl) (br_int Try.underlying3) (brF_cons (o' := 6) rfl (by kernel_rfl) (br_int Try.underlying3) (brF_cons (o' := 7) rfl (by kernel_rfl) (br_bool Try.underlying4) (brF_cons (o' := 8) rfl (by kernel_rfl) (br_string Try.underlying9) (brF_last rfl (by kernel_rfl) (br_slice 24 uu Try.underlying98 (by kernel_rfl) (by decide) (by kernel_rfl) (b126 enc W)))))))))))) (fun _ => rfl) (fun _ h => ⟨h.1, h.2.1, h.2.2.1, h.2.2.2.1, h.2.2.2.2.1, h.2.2.2.2.2.1, h.2.2.2.2.2.2.1, h.2.2.2.2.2.2.2.1, h.2.2.2.2.2.2.2.2⟩))
theorem b38 {H : Type} (enc : TypeId × Value → H) (W : World) : Br UU enc Try.prog W 38 (UU.enc 38) B38 :=
  (br_iso (fun q : (List S34) => (⟨q⟩ : S27)) (br_struct (tot := 1) Try.underlying38 (by kernel_rfl) (brF_last rfl (by kernel_rfl) (br_slice 96 uu Try.underlying36 (by kernel_rfl) (by decide) (by kernel_rfl) (b100 enc W)))) (fun _ => rfl) (fun _ h => ⟨h⟩))
theorem b3 {H : Type} (enc : TypeId × Value → H) (W : World) : Br UU enc Try.prog W 3 (UU.enc 3) B3 :=
  (br_iso id (br_int Try.underlying3) (fun _ => rfl) (fun _ h => h))
theorem b52 {H : Type} (enc : TypeId × Value → H) (W : World) : Br UU enc Try.prog W 52 (UU.enc 52) B52 :=
  (br_iso (fun q : Int × Int × (List Int) => (⟨q.1, q.2.1, q.2.2⟩ : S52)) (br_struct (tot := 3) Try.underlying52 (by kernel_rfl) (brF_cons (o' := 1) rfl (by kernel_rfl) (br_int Try.underlying3) (brF_cons (o' := 2) rfl (by kernel_rfl) (br_int Try.underlying3) (brF_last rfl (by kernel_rfl) (br_slice 8 uu Try.underlying50 (by kernel_rfl) (by decide) (by kernel_rfl) (b3 enc W)))))) (fun _ => rfl) (fun _ h => ⟨h.1, h.2.1, h.2.2⟩))
set_option maxRecDepth 100000 in
theorem lifted (os : Os) (started : os.Started) (H : Type) (enc : TypeId × Value → H) :
    ReturnsInHanded {} Try.checked os 8 .any (Rows.fnExactFsLookSpec.pre6 enc Try.prog Try.f8 Rows.fnExactFsLookRow.domain false) (Rows.fnExactFsLookSpec.post enc Try.prog Try.f8 false true false false) := by
  refine returnsInHanded_of_change_sized (C := Try.checked) own started (by kernel_rfl) Try.func8
    (ChangeSpec.witness6 (enc := enc) (C := Try.checked) false ⟨#[], #[.agg #[.slice none 0 0], .agg #[.int .i64 0, .int .i64 0, .slice none 0 0], .int .i64 0, .string ByteArray.empty], []⟩ 8 (by kernel_rfl) (by kernel_rfl) (by kernel_rfl) (by kernel_rfl)) ?_
  intro W base args ds gs before hval0 hW hcnd hsz0 _
  have hsz : (DataW.weightsEach Try.prog (Try.f8.params.toList ++ Rows.fnExactFsLookSpec.plain.varTypes Try.prog) (ds ++ gs)).all (· ≤ reachBytes) = true := hsz0
  have hval : ∀ (j : Nat) t v, Try.f8.params[j]? = some t → args[j]? = some v → Value.okWide Try.prog W .any base t v := hval0
  have hW' := hW
  obtain ⟨p, q, hA0, hV, rfl, hfz, hnd⟩ := hW
  have hA : DataW.TrodAll enc Try.prog W 0 (fun _ => true) true Try.f8.params.toList args.toList ds p := hA0
  rw [Try.params8] at hA hval hsz
  obtain ⟨v0, vs0, d0, ds0, p0, q0, hargs, rfl, rfl, h0, r0⟩ := trodAll_cons hA
  obtain ⟨v1, vs1, d1, ds1, p1, q1, rfl, rfl, rfl, h1, r1⟩ := trodAll_cons r0
  obtain ⟨v2, vs2, d2, ds2, p2, q2, rfl, rfl, rfl, h2, r2⟩ := trodAll_cons r1
  obtain ⟨v3, vs3, d3, ds3, p3, q3, rfl, rfl, rfl, h3, r3⟩ := trodAll_cons r2
  obtain ⟨rfl, rfl, rfl⟩ := trodAll_nil r3
  obtain rfl : args = #[v0, v1, v2, v3] := by cases args; simp_all
  obtain ⟨rfl, rfl⟩ := trodVars_none hV
  have k0 := h0
  have lt0 : ∀ x ∈ p0, x.block < W.heap.size := by obtain ⟨m, hm⟩ := k0; exact DataW.trod_lt m _ _ _ hm
  obtain ⟨x0, hK0, hB0⟩ := br_agg (b38 enc W) Try.underlying38 (hval 0 38 v0 rfl rfl) h0 hsz (j := 0) rfl rfl
  have k1 := h1
  have lt1 : ∀ x ∈ p1, x.block < W.heap.size := by obtain ⟨m, hm⟩ := k1; exact DataW.trod_lt m _ _ _ hm
  obtain ⟨x1, hK1, hB1⟩ := br_agg (b52 enc W) Try.underlying52 (hval 1 52 v1 rfl rfl) h1 hsz (j := 1) rfl rfl
  obtain ⟨x2, rfl, rfl, rfl, w2⟩ := open_int Try.underlying3 (hval 2 3 v2 rfl rfl) h2
  obtain ⟨x3, rfl, rfl, rfl, y3⟩ := open_string Try.underlying9 (hval 3 9 v3 rfl rfl) h3
  have w3 : x3.size ≤ 140737488351232 := by
    have z := sized_string hsz (j := 3) (t := 9) rfl rfl
    rw [Array.length_toList] at z
    exact z
  clear hA0 hval0 hsz0 hsz hval
  obtain ⟨k, hk⟩ := law_FnExactFsLook x0 x1 x2 x3 hB0 hB1 w2 w3
  refine (Snd.bool (snd8 k) (l := [.agg (UU.enc 38 x0), .agg (UU.enc 52 x1), .v (.int .i64 x2), .v (.string x3)]) (a := (x0, x1, x2, x3)) (by rfl) hk (VRs.cons hK0 (VRs.cons hK1 (VRs.cons (.v _) (VRs.cons (.v _) VRs.nil))))).mono fun e W' ⟨he, bel⟩ => ?_
  subst he
  exact ⟨_, rfl, _, _, _, [], _, [], hW', trodAll_mk1 (shut_bool Try.underlying4 _), (trodAll_cons_mk (Below.trod laidOut (by kernel_rfl) (of_decide_eq_true (by kernel_rfl)) k0 bel lt0) (trodAll_cons_mk (Below.trod laidOut (by kernel_rfl) (of_decide_eq_true (by kernel_rfl)) k1 bel lt1) (trodAll_cons_mk (shut_int Try.underlying3 w2) (trodAll_cons_mk (shut_string Try.underlying9 y3) trodAll_mk0)))), rfl, bel.frame _, fun h => by cases h⟩
theorem over : Rows.fnExactFsLookRow.holds Try.pinned (OpenSpec.ofChange Rows.fnExactFsLookSpec) :=
  OpenClaim.holds_of_wide 8 Try.f8 rfl rfl rfl rfl rfl rfl rfl ⟨rfl, rfl, rfl, rfl, rfl⟩ rfl rfl rfl rfl rfl (by kernel_rfl) Try.func8 (by kernel_rfl)
    (of_decide_eq_true (by kernel_rfl)) (by unfold Func.isWrapper; first | (rw [if_pos (by decide +kernel)]; kernel_rfl) | (rw [if_neg (by decide +kernel)]; exact ⟨rfl, rfl⟩))
    (fun os started H enc _ => lifted os started H enc)
theorem proved : Rows.FnExactFsLookSaid := over
#print axioms proved
end Go.Proofs.Ytpljcphiaajjaaa.fnExactFsLook
namespace Go.Proofs.Ytpljcphiaajjaaa
/-- The row, under a short name, for the claim. -/
theorem fnExactFsLook_holds : Rows.FnExactFsLookSaid := fnExactFsLook.proved
end Go.Proofs.Ytpljcphiaajjaaa
