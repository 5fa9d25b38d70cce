/- The bounds that a reading of the law FnExactModeRead's parameters owes, and the law's pure statement. -/
import Derived.Test.YtpholngikeekdaaPFnExactModeReadx1
namespace Go.Proofs.Ytpholngikeekdaa.BdFnExactModeRead
open Go.RowKit Go.Proofs.Ytpholngikeekdaa.PFnExactModeRead Go.Proofs.YtpholngikeekdaaW.PrintWords Go.Proofs.YtpholngikeekdaaW.PrintLast

def Pure : Prop := ∀ (a0 : ByteArray), (a0.size ≤ 140737488351232) → ∃ k, laws_FnExactModeRead.f k a0 = some true
end Go.Proofs.Ytpholngikeekdaa.BdFnExactModeRead
