import Derived.Test.YtecniihieninjaaSyU
/- The bounds that a reading of the law FnBytesSame's parameters owes. No further condition. -/
namespace Go.Sx
open Go.RowKit
def B5 (x : Int) : Prop := (Lit.int .u8 x).wf = true
end Go.Sx
