/- The program's AreaOk and the reference's answer alike at every area. -/
import Derived.Test.YtpholngikeekdaaBdFnExactAreaOk
namespace Go.Proofs.Ytpholngikeekdaa.Pure
open Go.RowKit Go.Proofs.Ytpholngikeekdaa.PFnExactAreaOk Go.Proofs.YtpholngikeekdaaW.PrintWords Go.Proofs.YtpholngikeekdaaW.PrintLast

theorem areaOk_in (a b c : Int) : impl_in.f a b c = some (decide (b ≤ a ∧ a ≤ c)) := by
  unfold impl_in.f
  by_cases h : a ≥ b <;> simp [h]
theorem areaOk_same (a b : Int) (c d : Bool) : spec_AreaOk.f a b c d = impl_AreaOk.f a b c d := rfl
theorem areaOk_some (a b : Int) (c d : Bool) : ∃ r, impl_AreaOk.f a b c d = some r := by
  unfold impl_AreaOk.f
  simp only [areaOk_in, Option.bind_some]
  split <;> exact ⟨_, rfl⟩

theorem FnExactAreaOk : BdFnExactAreaOk.Pure := by
  intro a b c d _
  obtain ⟨r, hr⟩ := areaOk_some a b c d
  unfold laws_FnExactAreaOk.f laws_toArea.f
  simp only [Option.bind_some, areaOk_same, hr]
  simp

end Go.Proofs.Ytpholngikeekdaa.Pure
