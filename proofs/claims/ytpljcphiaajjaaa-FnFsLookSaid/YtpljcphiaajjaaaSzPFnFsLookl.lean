/- The plain law FnFsLook, over what its functions compute: a part. No further condition. -/
import Derived.Test.YtpljcphiaajjaaaSzPFnFsLookk
set_option linter.unusedVariables false
set_option linter.unusedSimpArgs false
namespace Go.Sx
open Go.RowKit Go.Lib
set_option linter.unusedVariables false
set_option linter.unusedSimpArgs false

theorem fs_true {ns : List S34} (hf : ∀ i, i < 10 → FitN (nd ns i)) {k : Nat} (hk : 80000000 ≤ k) (h : f16 k ⟨ns⟩ = some true) : ns.length = 10 ∧ (∀ i, i < 10 → nodeS (nd ns i) = true) ∧ ∃ M, GInv (kE ns) (kF ns) 10 [] M ∧ ∀ j, j < 10 → condS ns (fX ns) (mrk M) j = true := by
  by_cases hns : ns.length = 10
  · obtain ⟨b, s1, s2, _⟩ := spec_sum ns hns hf hk
    rw [h] at s1
    obtain rfl := Option.some.inj s1
    exact ⟨hns, (s2 rfl).1, (s2 rfl).2.2⟩
  · exfalso
    have : f16 k ⟨ns⟩ = some false := by
      show cond (_ != _) _ _ = _
      rw [bne_int, decide_eq_false (show ¬ ((ns.length : Nat) : Int) = 10 by omega)]; rfl
    rw [this] at h
    cases h
theorem fit_nd {ns : List S34} (hf : ∀ z ∈ ns, FitN z) : ∀ i, FitN (nd ns i) := by
  intro i
  unfold nd rd34
  rw [List.getD_eq_getElem?_getD]
  cases h : ns[((i : Int)).toNat]? with
  | none => exact ⟨Nat.zero_le _, fun e he => by cases he⟩
  | some z => exact hf z (List.mem_of_getElem? h)
end Go.Sx
