/- Two new tables of signals share no store: the whole law is one reckoning. -/
import Derived.Test.YtadbeajdccfceaaBdFnExactSigsNew
namespace Go.Proofs.Ytadbeajdccfceaa.Pure
open Go.RowKit Go.Proofs.Ytadbeajdccfceaa.XFnExactSigsNew Go.Proofs.YtadbeajdccfceaaW.PrintWords Go.Proofs.YtadbeajdccfceaaW.PrintLast
set_option maxRecDepth 100000 in
theorem FnExactSigsNew : BdFnExactSigsNew.Pure := ⟨100, by decide +kernel⟩

end Go.Proofs.Ytadbeajdccfceaa.Pure
