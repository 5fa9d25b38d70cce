/- The bounds that a reading of the law FnPipeTake's parameters owes, and the law's pure statement. -/
import Derived.Test.YtdcblmmfomjhcaaPFnPipeTakex4
namespace Go.Proofs.Ytdcblmmfomjhcaa.BdFnPipeTake
open Go.RowKit Go.Proofs.Ytdcblmmfomjhcaa.PFnPipeTake Go.Proofs.YtdcblmmfomjhcaaW.PrintWords Go.Proofs.YtdcblmmfomjhcaaW.PrintLast

def Pure : Prop := ∀ (l0 : List Int), (l0.length * 1 ≤ 140737488351232 ∧ ∀ z ∈ l0, (Lit.int .u8 z).wf = true) → ∃ k, laws_FnPipeTake.f k l0 = some true
end Go.Proofs.Ytdcblmmfomjhcaa.BdFnPipeTake
