/- Two new memories share no store: the whole law is one reckoning. -/
import Derived.Test.YtjajfbgijailmaaBdFnExactMemNew
namespace Go.Proofs.Ytjajfbgijailmaa.Pure
open Go.RowKit Go.Proofs.Ytjajfbgijailmaa.XFnExactMemNew Go.Proofs.YtjajfbgijailmaaW.PrintWords Go.Proofs.YtjajfbgijailmaaW.PrintLast
set_option maxRecDepth 100000 in
theorem FnExactMemNew : BdFnExactMemNew.Pure := ⟨100, by decide +kernel⟩

end Go.Proofs.Ytjajfbgijailmaa.Pure
