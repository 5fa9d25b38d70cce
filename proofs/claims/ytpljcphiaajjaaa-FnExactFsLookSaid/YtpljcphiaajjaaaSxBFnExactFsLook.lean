import Derived.Test.YtpljcphiaajjaaaSxU
/- The bounds that a reading of the law FnExactFsLook's parameters owes. No further condition. -/
namespace Go.Sx
open Go.RowKit
structure B126 (x : S47) : Prop where
  b0 : x.f0.size ≤ 140737488351232
  b1 : (Lit.int .i64 x.f1).wf = true
structure B100 (x : S34) : Prop where
  b0 : (Lit.int .i64 x.f0).wf = true
  b1 : (Lit.int .i64 x.f1).wf = true
  b2 : (Lit.int .i64 x.f2).wf = true
  b3 : (Lit.int .i64 x.f3).wf = true
  b4 : (Lit.int .i64 x.f4).wf = true
  b5 : (Lit.int .i64 x.f5).wf = true
  b6 : True
  b7 : x.f7.size ≤ 140737488351232
  b8 : (x.f8.length * 24 ≤ 140737488351232 ∧ ∀ z ∈ x.f8, B126 z)
structure B38 (x : S27) : Prop where
  b0 : (x.f0.length * 96 ≤ 140737488351232 ∧ ∀ z ∈ x.f0, B100 z)
def B3 (x : Int) : Prop := (Lit.int .i64 x).wf = true
structure B52 (x : S52) : Prop where
  b0 : (Lit.int .i64 x.f0).wf = true
  b1 : (Lit.int .i64 x.f1).wf = true
  b2 : (x.f2.length * 8 ≤ 140737488351232 ∧ ∀ z ∈ x.f2, B3 z)
end Go.Sx
