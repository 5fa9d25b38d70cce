import Derived.Test.YtecniihieninjaaSxU
/- The bounds that a reading of the law FnExactBytesSame's parameters owes. No further condition. -/
namespace Go.Sx
open Go.RowKit
structure B147 (x : S147) : Prop where
  b0 : (Lit.int .i64 x.f0).wf = true
  b1 : (Lit.int .i64 x.f1).wf = true
  b2 : True
  b3 : True
def B3 (x : Int) : Prop := (Lit.int .i64 x).wf = true
def B9 (x : ByteArray) : Prop := x.size ≤ 140737488351232
structure B101 (x : S101) : Prop where
  b0 : True
  b1 : (x.f1.length * 24 ≤ 140737488351232 ∧ ∀ z ∈ x.f1, B147 z)
  b2 : (x.f2.length * 8 ≤ 140737488351232 ∧ ∀ z ∈ x.f2, B3 z)
  b3 : (x.f3.length * 16 ≤ 140737488351232 ∧ ∀ z ∈ x.f3, B9 z)
structure B45 (x : S45) : Prop where
  b0 : (x.f0.length * 80 ≤ 140737488351232 ∧ ∀ z ∈ x.f0, B101 z)
end Go.Sx
