/- The bounds that a reading of the law FnPagesGet's parameters owes, and the law's pure statement. -/
import Derived.Test.YtahncndhlpdegaaPFnPagesGetx5
namespace Go.Proofs.Ytahncndhlpdegaa.BdFnPagesGet
open Go.RowKit Go.Proofs.Ytahncndhlpdegaa.PFnPagesGet Go.Proofs.YtahncndhlpdegaaW.PrintWords Go.Proofs.YtahncndhlpdegaaW.PrintLast

def Pure : Prop := ∀ (l0 : List Int), (l0.length * 1 ≤ 140737488351232 ∧ ∀ z ∈ l0, (Lit.int .u8 z).wf = true) → ∃ k, laws_FnPagesGet.f k l0 = some true
end Go.Proofs.Ytahncndhlpdegaa.BdFnPagesGet
