/- The program's ModeText and the reference's answer alike at every whole number. -/
import Derived.Test.YtpholngikeekdaaPFnExactModeTextx1
namespace Go.Proofs.Ytpholngikeekdaa.Pure
open Go.RowKit Go.Proofs.Ytpholngikeekdaa.PFnExactModeText Go.Proofs.YtpholngikeekdaaW.PrintWords Go.Proofs.YtpholngikeekdaaW.PrintLast

theorem modeText_all : ∀ n : Fin 512, spec_ModeText.f 12 (n.val : Int) = impl_ModeText.f 12 (n.val : Int) ∧ (spec_ModeText.f 12 (n.val : Int)).isSome = true := by
  decide +kernel

theorem FnExactModeText : laws_FnExactModeText.Pure := by
  intro a0 _
  refine ⟨12, ?_⟩
  by_cases h : 0 ≤ a0 ∧ a0 ≤ 511
  · obtain ⟨n, rfl⟩ : ∃ n : Fin 512, (n.val : Int) = a0 := ⟨⟨a0.toNat, by omega⟩, by simp; omega⟩
    obtain ⟨h1, h2⟩ := modeText_all n
    obtain ⟨t, ht⟩ := Option.isSome_iff_exists.1 h2
    unfold laws_FnExactModeText.f
    rw [← h1, ht]; simp
  · have e1 : spec_ModeText.f 12 a0 = some ⟨#[]⟩ := by
      unfold spec_ModeText.f spec_l6In.f
      by_cases h0 : a0 ≥ 0
      · have h1 : ¬ a0 ≤ 511 := by omega
        simp [h0, h1]
      · simp [h0]
    have e2 : impl_ModeText.f 12 a0 = some ⟨#[]⟩ := by
      unfold impl_ModeText.f impl_in.f
      by_cases h0 : a0 ≥ 0
      · have h1 : ¬ a0 ≤ 511 := by omega
        simp [h0, h1]
      · simp [h0]
    unfold laws_FnExactModeText.f
    rw [e1, e2]; simp

end Go.Proofs.Ytpholngikeekdaa.Pure
