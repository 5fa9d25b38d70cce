/- The bounds that a reading of the law FnExactLockNew's parameters owes, and the law's pure statement. -/
import Derived.Test.YtecniihieninjaaPFnExactLockNewx4
namespace Go.Proofs.Ytecniihieninjaa.BdFnExactLockNew
open Go.RowKit Go.Proofs.Ytecniihieninjaa.PFnExactLockNew Go.Proofs.YtecniihieninjaaW.PrintWords Go.Proofs.YtecniihieninjaaW.PrintLast

def Pure : Prop := ∀ (a0 : Int) (a1 : Int), ((Lit.int .i64 a0).wf = true) → ((Lit.int .i64 a1).wf = true) → ∃ k, laws_FnExactLockNew.f k a0 a1 = some true
end Go.Proofs.Ytecniihieninjaa.BdFnExactLockNew
