/- The bounds that a reading of the law FnSigsOk's parameters owes, and the law's pure statement. -/
import Derived.Test.YtadbeajdccfceaaPFnSigsOkx5
namespace Go.Proofs.Ytadbeajdccfceaa.BdFnSigsOk
open Go.RowKit Go.Proofs.Ytadbeajdccfceaa.PFnSigsOk Go.Proofs.YtadbeajdccfceaaW.PrintWords Go.Proofs.YtadbeajdccfceaaW.PrintLast

def Pure : Prop := ∀ (l0 : List Int), (l0.length * 1 ≤ 140737488351232 ∧ ∀ z ∈ l0, (Lit.int .u8 z).wf = true) → ∃ k, laws_FnSigsOk.f k l0 = some true
end Go.Proofs.Ytadbeajdccfceaa.BdFnSigsOk
