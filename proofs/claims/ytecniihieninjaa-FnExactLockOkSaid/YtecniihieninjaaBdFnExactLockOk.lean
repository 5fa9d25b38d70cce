/- The bounds that a reading of the law FnExactLockOk's parameters owes, and the law's pure statement. -/
import Derived.Test.YtecniihieninjaaXFnExactLockOkx6
namespace Go.Proofs.Ytecniihieninjaa.BdFnExactLockOk
open Go.RowKit Go.Proofs.Ytecniihieninjaa.XFnExactLockOk Go.Proofs.YtecniihieninjaaW.PrintWords Go.Proofs.YtecniihieninjaaW.PrintLast

def B97 (x : S97) : Prop := (Lit.int .i64 x.f0).wf = true ∧ (Lit.int .i64 x.f1).wf = true ∧ (Lit.int .i64 x.f2).wf = true ∧ True
def Pure : Prop := ∀ (a0_0 : Int) (l0_1 : List S97) (l0_2 : List Int), ((Lit.int .i64 a0_0).wf = true ∧ (l0_1.length * 32 ≤ 140737488351232 ∧ ∀ z ∈ l0_1, B97 z) ∧ l0_2.length * 8 ≤ 140737488351232 ∧ ∀ z ∈ l0_2, (Lit.int .i64 z).wf = true) → ∃ k, laws_FnExactLockOk.f k a0_0 l0_1 l0_2 = some true
end Go.Proofs.Ytecniihieninjaa.BdFnExactLockOk
