/- The program's PipeReady and the reference's answer alike at every pipe. -/
import Derived.Test.YtpholngikeekdaaBdFnExactPipeReady
namespace Go.Proofs.Ytpholngikeekdaa.Pure
open Go.RowKit Go.Proofs.Ytpholngikeekdaa.PFnExactPipeReady Go.Proofs.YtpholngikeekdaaW.PrintWords Go.Proofs.YtpholngikeekdaaW.PrintLast

theorem pipeReady_in (a b c : Int) : impl_in.f a b c = some (decide (b ≤ a ∧ a ≤ c)) := by
  unfold impl_in.f
  by_cases h : a ≥ b <;> simp [h]
theorem pipeReady_okSome (t : ByteArray) (a b : Int) : ∃ r, impl_PipeOk.f t a b = some r := by
  unfold impl_PipeOk.f
  simp only [pipeReady_in, Option.bind_some]
  repeat' split
  all_goals exact ⟨_, rfl⟩
theorem pipeReady_same (t : ByteArray) (a b : Int) : spec_PipeReady.f t a b = impl_PipeReady.f t a b := rfl
theorem pipeReady_some (t : ByteArray) (a b : Int) : ∃ r, impl_PipeReady.f t a b = some r := by
  obtain ⟨r, hr⟩ := pipeReady_okSome t a b
  unfold impl_PipeReady.f
  simp only [hr, Option.bind_some]
  repeat' split
  all_goals exact ⟨_, rfl⟩

theorem FnExactPipeReady : BdFnExactPipeReady.Pure := by
  intro t a b _
  obtain ⟨r, hr⟩ := pipeReady_some t a b
  unfold laws_FnExactPipeReady.f laws_szPipe.f laws_toPipe.f
  split <;> simp [pipeReady_same, hr]

end Go.Proofs.Ytpholngikeekdaa.Pure
