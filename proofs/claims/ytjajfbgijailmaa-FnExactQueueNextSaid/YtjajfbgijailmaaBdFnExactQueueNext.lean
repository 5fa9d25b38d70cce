/- The bounds that a reading of the law FnExactQueueNext's parameters owes, and the law's pure statement. -/
import Derived.Test.YtjajfbgijailmaaXFnExactQueueNextx5
namespace Go.Proofs.Ytjajfbgijailmaa.BdFnExactQueueNext
open Go.RowKit Go.Proofs.Ytjajfbgijailmaa.XFnExactQueueNext Go.Proofs.YtjajfbgijailmaaW.PrintWords Go.Proofs.YtjajfbgijailmaaW.PrintLast

def B91 (x : S91) : Prop := (Lit.int .i64 x.f0).wf = true ∧ (Lit.int .i64 x.f1).wf = true ∧ (Lit.int .i64 x.f2).wf = true ∧ True
def Pure : Prop := ∀ (l0_0 : List S91) (a0_1 : Int), ((l0_0.length * 32 ≤ 140737488351232 ∧ ∀ z ∈ l0_0, B91 z) ∧ (Lit.int .i64 a0_1).wf = true) → ∃ k, laws_FnExactQueueNext.f k l0_0 a0_1 = some true
end Go.Proofs.Ytjajfbgijailmaa.BdFnExactQueueNext
