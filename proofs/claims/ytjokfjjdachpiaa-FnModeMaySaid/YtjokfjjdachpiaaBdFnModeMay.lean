/- The bounds that a reading of the law FnModeMay's parameters owes, and the law's pure statement. -/
import Derived.Test.YtjokfjjdachpiaaXFnModeMayx4
namespace Go.Proofs.Ytjokfjjdachpiaa.BdFnModeMay
open Go.RowKit Go.Proofs.Ytjokfjjdachpiaa.XFnModeMay Go.Proofs.YtjokfjjdachpiaaW.PrintWords Go.Proofs.YtjokfjjdachpiaaW.PrintLast

def Pure : Prop := ∀ (l0 : List Int), (l0.length * 1 ≤ 140737488351232 ∧ ∀ z ∈ l0, (Lit.int .u8 z).wf = true) → ∃ k, laws_FnModeMay.f k l0 = some true
end Go.Proofs.Ytjokfjjdachpiaa.BdFnModeMay
