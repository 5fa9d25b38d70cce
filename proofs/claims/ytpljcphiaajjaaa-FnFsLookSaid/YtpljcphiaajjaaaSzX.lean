/- An evaluator of the model's code over symbolic values, and its soundness: part 21. No condition. -/
import Derived.Test.YtpljcphiaajjaaaSzT
set_option linter.unusedVariables false
set_option linter.unusedSimpArgs false
namespace Go.Sx
open Go.RowKit
variable {T : Nat → Type} {U : Univ T} {P : Program} {A R : Type}
theorem snd_ext {n : Nat} {fn : Func} {d : Dl U A} {f : A → Option R} {e : Dc U R} (hfn : P.funcs[n]? = some fn) (hname : (fn.name == "runtime.NumGoroutine") = false) (hb : fn.body.isNone = false)
    (h : ∀ a r, f a = some r → ∀ (w : World) (M : Mem) (vs : List Value), VRs U noR M (d.en a) vs → Calls P n vs.toArray w fun ex w' => ∃ v, ex = .returned v ∧ Below w.heap.size w w' ∧ VR U noR M (e.en r) v) : Snd P U n (W d f e) where
  enter := ⟨fn, hfn, hname, hb⟩
  run := by
    intro l c x hl hx w M vs hsub hbp hE hvs
    unfold W at hl
    split at hl
    · rename_i a ha
      cases hl
      refine (h a x hx w M vs (d.ok _ _ ha _ _ _ hvs)).mono fun ex w' ⟨v, he, hb, hv⟩ => ⟨v, noR, M, he, ⟨hb, .refl _, fun _ _ _ => rfl, fun b o u hu => ?_, hv, fun i k hi => (by cases hi), fun i j ki kj vi vj g hi => (by cases hi), hbp.below fun g hg => hb.block g hg, fun B hB g x hx => .inl ⟨B, hB, hx⟩, rfl⟩⟩
      have h1 := hsub b o u hu
      have hlt : b < w.heap.size := by
        unfold World.cell? at h1
        split at h1
        · rename_i hh
          exact (Array.getElem?_eq_some_iff.1 hh).1
        · cases h1
      rw [hb.cell hlt]
      exact h1
    · cases hl
end Go.Sx
