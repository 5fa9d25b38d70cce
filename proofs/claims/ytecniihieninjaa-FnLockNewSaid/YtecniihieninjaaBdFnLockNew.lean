/- The bounds that a reading of the law FnLockNew's parameters owes, and the law's pure statement. -/
import Derived.Test.YtecniihieninjaaXFnLockNewx7
namespace Go.Proofs.Ytecniihieninjaa.BdFnLockNew
open Go.RowKit Go.Proofs.Ytecniihieninjaa.XFnLockNew Go.Proofs.YtecniihieninjaaW.PrintWords Go.Proofs.YtecniihieninjaaW.PrintLast

def Pure : Prop := ∀ (l0 : List Int), (l0.length * 1 ≤ 140737488351232 ∧ ∀ z ∈ l0, (Lit.int .u8 z).wf = true) → ∃ k, laws_FnLockNew.f k l0 = some true
end Go.Proofs.Ytecniihieninjaa.BdFnLockNew
