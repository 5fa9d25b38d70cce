/- The bounds that a reading of the law FnExactSigsOk's parameters owes, and the law's pure statement. -/
import Derived.Test.YtadbeajdccfceaaPFnExactSigsOkx4
namespace Go.Proofs.Ytadbeajdccfceaa.BdFnExactSigsOk
open Go.RowKit Go.Proofs.Ytadbeajdccfceaa.PFnExactSigsOk Go.Proofs.YtadbeajdccfceaaW.PrintWords Go.Proofs.YtadbeajdccfceaaW.PrintLast

def Pure : Prop := ∀ (l0_0 : List Bool) (l0_1 : List Bool) (l0_2 : List Int), ((l0_0.length * 1 ≤ 140737488351232 ∧ ∀ z ∈ l0_0, True) ∧ (l0_1.length * 1 ≤ 140737488351232 ∧ ∀ z ∈ l0_1, True) ∧ l0_2.length * 8 ≤ 140737488351232 ∧ ∀ z ∈ l0_2, (Lit.int .i64 z).wf = true) → ∃ k, laws_FnExactSigsOk.f k l0_0 l0_1 l0_2 = some true
end Go.Proofs.Ytadbeajdccfceaa.BdFnExactSigsOk
