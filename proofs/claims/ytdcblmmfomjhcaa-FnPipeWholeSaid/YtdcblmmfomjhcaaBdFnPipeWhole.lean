/- The bounds that a reading of the law FnPipeWhole's parameters owes, and the law's pure statement. -/
import Derived.Test.YtdcblmmfomjhcaaXFnPipeWholex4
namespace Go.Proofs.Ytdcblmmfomjhcaa.BdFnPipeWhole
open Go.RowKit Go.Proofs.Ytdcblmmfomjhcaa.XFnPipeWhole Go.Proofs.YtdcblmmfomjhcaaW.PrintWords Go.Proofs.YtdcblmmfomjhcaaW.PrintLast

def Pure : Prop := ∀ (l0 : List Int) (l1 : List Int), (l0.length * 1 ≤ 140737488351232 ∧ ∀ z ∈ l0, (Lit.int .u8 z).wf = true) → (l1.length * 1 ≤ 140737488351232 ∧ ∀ z ∈ l1, (Lit.int .u8 z).wf = true) → ∃ k, laws_FnPipeWhole.f k l0 l1 = some true
end Go.Proofs.Ytdcblmmfomjhcaa.BdFnPipeWhole
