import Derived.Test.YtjjblclmpjaegaaSxU
/- The bounds that a reading of the law FnExactVfsPath's parameters owes. No further condition. -/
namespace Go.Sx
open Go.RowKit
structure B94 (x : S94) : Prop where
  b0 : x.f0.size ≤ 140737488351232
  b1 : (Lit.int .i64 x.f1).wf = true
structure B86 (x : S86) : Prop where
  b0 : (Lit.int .i64 x.f0).wf = true
  b1 : (Lit.int .i64 x.f1).wf = true
  b2 : (Lit.int .i64 x.f2).wf = true
  b3 : (Lit.int .i64 x.f3).wf = true
  b4 : (Lit.int .i64 x.f4).wf = true
  b5 : (Lit.int .i64 x.f5).wf = true
  b6 : True
  b7 : x.f7.size ≤ 140737488351232
  b8 : (x.f8.length * 24 ≤ 140737488351232 ∧ ∀ z ∈ x.f8, B94 z)
structure B63 (x : S63) : Prop where
  b0 : (x.f0.length * 96 ≤ 140737488351232 ∧ ∀ z ∈ x.f0, B86 z)
structure B24 (x : S24) : Prop where
  b0 : (x.f0.length * 24 ≤ 140737488351232 ∧ ∀ z ∈ x.f0, B63 z)
  b1 : (Lit.int .i64 x.f1).wf = true
structure B34 (x : S34) : Prop where
  b0 : (Lit.int .i64 x.f0).wf = true
  b1 : (Lit.int .i64 x.f1).wf = true
end Go.Sx
