/- The bounds that a reading of the law FnExactCredSignal's parameters owes, and the law's pure statement. -/
import Derived.Test.YtjokfjjdachpiaaPFnExactCredSignalx3
namespace Go.Proofs.Ytjokfjjdachpiaa.BdFnExactCredSignal
open Go.RowKit Go.Proofs.Ytjokfjjdachpiaa.PFnExactCredSignal Go.Proofs.YtjokfjjdachpiaaW.PrintWords Go.Proofs.YtjokfjjdachpiaaW.PrintLast

def Pure : Prop := ∀ (a0_0 : Int) (a0_1 : Int) (l0_2 : List Int) (a1_0 : Int) (a1_1 : Int) (l1_2 : List Int), ((Lit.int .i64 a0_0).wf = true ∧ (Lit.int .i64 a0_1).wf = true ∧ l0_2.length * 8 ≤ 140737488351232 ∧ ∀ z ∈ l0_2, (Lit.int .i64 z).wf = true) → ((Lit.int .i64 a1_0).wf = true ∧ (Lit.int .i64 a1_1).wf = true ∧ l1_2.length * 8 ≤ 140737488351232 ∧ ∀ z ∈ l1_2, (Lit.int .i64 z).wf = true) → ∃ k, laws_FnExactCredSignal.f k a0_0 a0_1 l0_2 a1_0 a1_1 l1_2 = some true
end Go.Proofs.Ytjokfjjdachpiaa.BdFnExactCredSignal
