/- The bounds that a reading of the law FnExactMemNew's parameters owes, and the law's pure statement. -/
import Derived.Test.YtjajfbgijailmaaXFnExactMemNewx7
namespace Go.Proofs.Ytjajfbgijailmaa.BdFnExactMemNew
open Go.RowKit Go.Proofs.Ytjajfbgijailmaa.XFnExactMemNew Go.Proofs.YtjajfbgijailmaaW.PrintWords Go.Proofs.YtjajfbgijailmaaW.PrintLast

def Pure : Prop := ∃ k, laws_FnExactMemNew.f k  = some true
end Go.Proofs.Ytjajfbgijailmaa.BdFnExactMemNew
