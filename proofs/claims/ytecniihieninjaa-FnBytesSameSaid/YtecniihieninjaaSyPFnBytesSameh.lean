/- The plain law FnBytesSame, over what its functions compute: a part. No further condition. -/
import Derived.Test.YtecniihieninjaaSyPFnBytesSameg
import Derived.Test.YtecniihieninjaaSyBFnBytesSame
set_option linter.unusedVariables false
set_option linter.unusedSimpArgs false
namespace Go.Sx
open Go.RowKit Go.Proofs
set_option linter.unusedVariables false
set_option linter.unusedSimpArgs false
noncomputable def g7 (k : Nat) (a : List Int) : Option Bool := (f7 k ([], a)).map Prod.fst
theorem sndT7 (k : Nat) : Snd Try.prog (UU false) 7 (W (Dl.one (Dc.row (UU false) 5)) (g7 k) (Dc.bool (UU false))) := by
  have key := SndP.top (U := UU true) (snd7 k) (G := W (Dl.one (Dc.row (UU true) 5)) (g7 k) (Dc.bool (UU true))) rfl (by
    intro l c x h1 h2
    unfold W at h1
    split at h1
    · rename_i a ha
      cases h1
      have h3 : (f7 k ([], a)).map Prod.fst = some x := h2
      obtain ⟨r, hr, hx⟩ := Option.map_eq_some_iff.1 h3
      refine ⟨⟨Bool × List (Cell TT), f7 k ([], a), fun r => ((Dc.bool (UU true)).en r.1, [.mark r.2])⟩, r, ?_, hr, rfl, ?_, rfl⟩
      · unfold WP; rw [ha]
      · rw [← hx]
    · cases h1) (by
    intro l c h1 M vs hv
    unfold W at h1
    split at h1
    · rename_i a ha
      have ha' : de1 (rowOf 5) l = some a := ha
      unfold de1 at ha'
      split at ha'
      · obtain ⟨v, ws, rfl, hx, hl⟩ := hv.head
        rename_i x
        refine VRs.cons ?_ ⟨hl.1, fun i a b => absurd a (by simp)⟩
        unfold rowOf at ha'
        split at ha'
        · rename_i t ys
          split at ha'
          · rename_i ht
            subst ht
            exact VR.flat hx rfl rfl (fun y => rfl)
          · cases ha'
        · cases hx; exact .v _
        · cases ha'
      · cases ha'
    · cases h1)
  exact key
theorem law_FnBytesSame (x0 : List Int) (h0 : x0.length * 1 ≤ 140737488351232 ∧ ∀ z ∈ x0, B5 z) : ∃ k, g7 k x0 = some true := by
  obtain ⟨cs', h⟩ := ok7 (cs := []) 40001 (by omega) x0 (fun x hx => by
    have := h0.2 x hx
    unfold B5 at this
    simp [Lit.wf, IntKind.min, IntKind.max, IntKind.signed, IntKind.bits] at this
    exact this)
  exact ⟨40001, by unfold g7; rw [h]; rfl⟩
end Go.Sx
