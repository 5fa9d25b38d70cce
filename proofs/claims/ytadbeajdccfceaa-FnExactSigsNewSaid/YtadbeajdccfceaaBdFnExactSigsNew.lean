/- The bounds that a reading of the law FnExactSigsNew's parameters owes, and the law's pure statement. -/
import Derived.Test.YtadbeajdccfceaaXFnExactSigsNewx4
namespace Go.Proofs.Ytadbeajdccfceaa.BdFnExactSigsNew
open Go.RowKit Go.Proofs.Ytadbeajdccfceaa.XFnExactSigsNew Go.Proofs.YtadbeajdccfceaaW.PrintWords Go.Proofs.YtadbeajdccfceaaW.PrintLast

def Pure : Prop := ∃ k, laws_FnExactSigsNew.f k  = some true
end Go.Proofs.Ytadbeajdccfceaa.BdFnExactSigsNew
