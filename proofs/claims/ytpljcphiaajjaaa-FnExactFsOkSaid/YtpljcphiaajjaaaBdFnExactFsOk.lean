/- The bounds that a reading of the law FnExactFsOk's parameters owes, and the law's pure statement. -/
import Derived.Test.YtpljcphiaajjaaaXFnExactFsOkx10
namespace Go.Proofs.Ytpljcphiaajjaaa.BdFnExactFsOk
open Go.RowKit Go.Proofs.Ytpljcphiaajjaaa.XFnExactFsOk Go.Proofs.YtpljcphiaajjaaaW.PrintWords Go.Proofs.YtpljcphiaajjaaaW.PrintLast

def B126 (x : S126) : Prop := x.f0.size ≤ 140737488351232 ∧ (Lit.int .i64 x.f1).wf = true
def B100 (x : S100) : Prop := (Lit.int .i64 x.f0).wf = true ∧ (Lit.int .i64 x.f1).wf = true ∧ (Lit.int .i64 x.f2).wf = true ∧ (Lit.int .i64 x.f3).wf = true ∧ (Lit.int .i64 x.f4).wf = true ∧ (Lit.int .i64 x.f5).wf = true ∧ True ∧ x.f7.size ≤ 140737488351232 ∧ x.f8.length * 24 ≤ 140737488351232 ∧ ∀ z ∈ x.f8, B126 z
def Pure : Prop := ∀ (l0_0 : List S100), (l0_0.length * 96 ≤ 140737488351232 ∧ ∀ z ∈ l0_0, B100 z) → ∃ k, laws_FnExactFsOk.f k l0_0 = some true
end Go.Proofs.Ytpljcphiaajjaaa.BdFnExactFsOk
