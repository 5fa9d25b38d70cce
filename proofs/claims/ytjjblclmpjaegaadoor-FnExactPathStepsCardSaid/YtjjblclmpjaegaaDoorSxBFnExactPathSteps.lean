import Derived.Test.YtjjblclmpjaegaaDoorSxU
/- The bounds that a reading of the law FnExactPathSteps's parameters owes. No further condition. -/
namespace Go.Sx
open Go.RowKit
end Go.Sx
