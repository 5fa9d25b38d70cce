/- The bounds that a reading of the law FnExactPagesNew's parameters owes, and the law's pure statement. -/
import Derived.Test.YtahncndhlpdegaaPFnExactPagesNewx3
namespace Go.Proofs.Ytahncndhlpdegaa.BdFnExactPagesNew
open Go.RowKit Go.Proofs.Ytahncndhlpdegaa.PFnExactPagesNew Go.Proofs.YtahncndhlpdegaaW.PrintWords Go.Proofs.YtahncndhlpdegaaW.PrintLast

def Pure : Prop := ∀ (a0 : Int), ((Lit.int .i64 a0).wf = true) → ∃ k, laws_FnExactPagesNew.f k a0 = some true
end Go.Proofs.Ytahncndhlpdegaa.BdFnExactPagesNew
