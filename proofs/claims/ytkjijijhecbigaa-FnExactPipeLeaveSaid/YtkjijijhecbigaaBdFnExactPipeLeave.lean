/- The bounds that a reading of the law FnExactPipeLeave's parameters owes, and the law's pure statement. -/
import Derived.Test.YtkjijijhecbigaaXFnExactPipeLeavex1
namespace Go.Proofs.Ytkjijijhecbigaa.BdFnExactPipeLeave
open Go.RowKit Go.Proofs.Ytkjijijhecbigaa.XFnExactPipeLeave Go.Proofs.YtkjijijhecbigaaW.PrintWords Go.Proofs.YtkjijijhecbigaaW.PrintLast

def Pure : Prop := ∀ (a0_0 : ByteArray) (a0_1 : Int) (a0_2 : Int) (a1 : Bool), (a0_0.size ≤ 140737488351232 ∧ (Lit.int .i64 a0_1).wf = true ∧ (Lit.int .i64 a0_2).wf = true) → laws_FnExactPipeLeave.f a0_0 a0_1 a0_2 a1 = some true
end Go.Proofs.Ytkjijijhecbigaa.BdFnExactPipeLeave
