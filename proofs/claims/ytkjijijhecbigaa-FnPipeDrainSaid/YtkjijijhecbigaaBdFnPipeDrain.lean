/- The bounds that a reading of the law FnPipeDrain's parameters owes, and the law's pure statement. -/
import Derived.Test.YtkjijijhecbigaaXFnPipeDrainx3
namespace Go.Proofs.Ytkjijijhecbigaa.BdFnPipeDrain
open Go.RowKit Go.Proofs.Ytkjijijhecbigaa.XFnPipeDrain Go.Proofs.YtkjijijhecbigaaW.PrintWords Go.Proofs.YtkjijijhecbigaaW.PrintLast

def Pure : Prop := ∀ (l0 : List Int), (l0.length * 1 ≤ 140737488351232 ∧ ∀ z ∈ l0, (Lit.int .u8 z).wf = true) → ∃ k, laws_FnPipeDrain.f k l0 = some true
end Go.Proofs.Ytkjijijhecbigaa.BdFnPipeDrain
