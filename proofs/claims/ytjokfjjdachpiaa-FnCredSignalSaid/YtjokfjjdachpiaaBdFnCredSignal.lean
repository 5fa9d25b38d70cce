/- The bounds that a reading of the law FnCredSignal's parameters owes, and the law's pure statement. -/
import Derived.Test.YtjokfjjdachpiaaXFnCredSignalx4
namespace Go.Proofs.Ytjokfjjdachpiaa.BdFnCredSignal
open Go.RowKit Go.Proofs.Ytjokfjjdachpiaa.XFnCredSignal Go.Proofs.YtjokfjjdachpiaaW.PrintWords Go.Proofs.YtjokfjjdachpiaaW.PrintLast

def Pure : Prop := ∀ (l0 : List Int), (l0.length * 1 ≤ 140737488351232 ∧ ∀ z ∈ l0, (Lit.int .u8 z).wf = true) → ∃ k, laws_FnCredSignal.f k l0 = some true
end Go.Proofs.Ytjokfjjdachpiaa.BdFnCredSignal
