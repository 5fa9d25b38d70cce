/- The bounds that a reading of the law FnExactPipePut's parameters owes, and the law's pure statement. -/
import Derived.Test.YtdcblmmfomjhcaaXFnExactPipePutx2
namespace Go.Proofs.Ytdcblmmfomjhcaa.BdFnExactPipePut
open Go.RowKit Go.Proofs.Ytdcblmmfomjhcaa.XFnExactPipePut Go.Proofs.YtdcblmmfomjhcaaW.PrintWords Go.Proofs.YtdcblmmfomjhcaaW.PrintLast

def Pure : Prop := ∀ (a0_0 : ByteArray) (a0_1 : Int) (a0_2 : Int) (a1 : ByteArray), (a0_0.size ≤ 140737488351232 ∧ (Lit.int .i64 a0_1).wf = true ∧ (Lit.int .i64 a0_2).wf = true) → (a1.size ≤ 140737488351232) → ∃ k, laws_FnExactPipePut.f k a0_0 a0_1 a0_2 a1 = some true
end Go.Proofs.Ytdcblmmfomjhcaa.BdFnExactPipePut
