/- The bounds that a reading of the law FnPipeJoin's parameters owes, and the law's pure statement. -/
import Derived.Test.YtkjijijhecbigaaXFnPipeJoinx5
namespace Go.Proofs.Ytkjijijhecbigaa.BdFnPipeJoin
open Go.RowKit Go.Proofs.Ytkjijijhecbigaa.XFnPipeJoin Go.Proofs.YtkjijijhecbigaaW.PrintWords Go.Proofs.YtkjijijhecbigaaW.PrintLast

def Pure : Prop := ∀ (l0 : List Int), (l0.length * 1 ≤ 140737488351232 ∧ ∀ z ∈ l0, (Lit.int .u8 z).wf = true) → ∃ k, laws_FnPipeJoin.f k l0 = some true
end Go.Proofs.Ytkjijijhecbigaa.BdFnPipeJoin
