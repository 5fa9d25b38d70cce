/- The bounds that a reading of the law FnPipePut's parameters owes, and the law's pure statement. -/
import Derived.Test.YtdcblmmfomjhcaaXFnPipePutx5
namespace Go.Proofs.Ytdcblmmfomjhcaa.BdFnPipePut
open Go.RowKit Go.Proofs.Ytdcblmmfomjhcaa.XFnPipePut Go.Proofs.YtdcblmmfomjhcaaW.PrintWords Go.Proofs.YtdcblmmfomjhcaaW.PrintLast

def Pure : Prop := ∀ (l0 : List Int), (l0.length * 1 ≤ 140737488351232 ∧ ∀ z ∈ l0, (Lit.int .u8 z).wf = true) → ∃ k, laws_FnPipePut.f k l0 = some true
end Go.Proofs.Ytdcblmmfomjhcaa.BdFnPipePut
