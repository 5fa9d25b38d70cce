/- The bounds that a reading of the law FnFsNew's parameters owes, and the law's pure statement. -/
import Derived.Test.YtpljcphiaajjaaaXFnFsNewx6
namespace Go.Proofs.Ytpljcphiaajjaaa.BdFnFsNew
open Go.RowKit Go.Proofs.Ytpljcphiaajjaaa.XFnFsNew Go.Proofs.YtpljcphiaajjaaaW.PrintWords Go.Proofs.YtpljcphiaajjaaaW.PrintLast

def Pure : Prop := ∀ (l0 : List Int), (l0.length * 1 ≤ 140737488351232 ∧ ∀ z ∈ l0, (Lit.int .u8 z).wf = true) → ∃ k, laws_FnFsNew.f k l0 = some true
end Go.Proofs.Ytpljcphiaajjaaa.BdFnFsNew
