/- The bounds that a reading of the law FnQueueNext's parameters owes, and the law's pure statement. -/
import Derived.Test.YtjajfbgijailmaaXFnQueueNextx10
namespace Go.Proofs.Ytjajfbgijailmaa.BdFnQueueNext
open Go.RowKit Go.Proofs.Ytjajfbgijailmaa.XFnQueueNext Go.Proofs.YtjajfbgijailmaaW.PrintWords Go.Proofs.YtjajfbgijailmaaW.PrintLast

def Pure : Prop := ∀ (l0 : List Int), (l0.length * 1 ≤ 140737488351232 ∧ ∀ z ∈ l0, (Lit.int .u8 z).wf = true) → ∃ k, laws_FnQueueNext.f k l0 = some true
end Go.Proofs.Ytjajfbgijailmaa.BdFnQueueNext
