/- The program's PipeOk and the reference's answer alike at every pipe. -/
import Derived.Test.YtpholngikeekdaaBdFnExactPipeOk
namespace Go.Proofs.Ytpholngikeekdaa.Pure
open Go.RowKit Go.Proofs.Ytpholngikeekdaa.PFnExactPipeOk Go.Proofs.YtpholngikeekdaaW.PrintWords Go.Proofs.YtpholngikeekdaaW.PrintLast

theorem pipeOk_in (a b c : Int) : impl_in.f a b c = some (decide (b ≤ a ∧ a ≤ c)) := by
  unfold impl_in.f
  by_cases h : a ≥ b <;> simp [h]
theorem pipeOk_same (t : ByteArray) (a b : Int) : spec_PipeOk.f t a b = impl_PipeOk.f t a b := rfl
theorem pipeOk_some (t : ByteArray) (a b : Int) : ∃ r, impl_PipeOk.f t a b = some r := by
  unfold impl_PipeOk.f
  simp only [pipeOk_in, Option.bind_some]
  repeat' split
  all_goals exact ⟨_, rfl⟩

theorem FnExactPipeOk : BdFnExactPipeOk.Pure := by
  intro t a b _
  obtain ⟨r, hr⟩ := pipeOk_some t a b
  unfold laws_FnExactPipeOk.f laws_szPipe.f laws_toPipe.f
  split <;> simp [pipeOk_same, hr]

end Go.Proofs.Ytpholngikeekdaa.Pure
