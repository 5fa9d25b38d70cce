/- The bounds that a reading of the law FnExactFsRead's parameters owes, and the law's pure statement. -/
import Derived.Test.YtpljcphiaajjaaaXFnExactFsReadx11
namespace Go.Proofs.Ytpljcphiaajjaaa.BdFnExactFsRead
open Go.RowKit Go.Proofs.Ytpljcphiaajjaaa.XFnExactFsRead Go.Proofs.YtpljcphiaajjaaaW.PrintWords Go.Proofs.YtpljcphiaajjaaaW.PrintLast

def B126 (x : S126) : Prop := x.f0.size ≤ 140737488351232 ∧ (Lit.int .i64 x.f1).wf = true
def B100 (x : S100) : Prop := (Lit.int .i64 x.f0).wf = true ∧ (Lit.int .i64 x.f1).wf = true ∧ (Lit.int .i64 x.f2).wf = true ∧ (Lit.int .i64 x.f3).wf = true ∧ (Lit.int .i64 x.f4).wf = true ∧ (Lit.int .i64 x.f5).wf = true ∧ True ∧ x.f7.size ≤ 140737488351232 ∧ x.f8.length * 24 ≤ 140737488351232 ∧ ∀ z ∈ x.f8, B126 z
def Pure : Prop := ∀ (l0_0 : List S100) (a1 : Int) (a2 : Int) (a3 : Int), (l0_0.length * 96 ≤ 140737488351232 ∧ ∀ z ∈ l0_0, B100 z) → ((Lit.int .i64 a1).wf = true) → ((Lit.int .i64 a2).wf = true) → ((Lit.int .i64 a3).wf = true) → ∃ k, laws_FnExactFsRead.f k l0_0 a1 a2 a3 = some true
end Go.Proofs.Ytpljcphiaajjaaa.BdFnExactFsRead
