/- The bounds that a reading of the law FnExactModeMay's parameters owes, and the law's pure statement. -/
import Derived.Test.YtjokfjjdachpiaaPFnExactModeMayx3
namespace Go.Proofs.Ytjokfjjdachpiaa.BdFnExactModeMay
open Go.RowKit Go.Proofs.Ytjokfjjdachpiaa.PFnExactModeMay Go.Proofs.YtjokfjjdachpiaaW.PrintWords Go.Proofs.YtjokfjjdachpiaaW.PrintLast

def Pure : Prop := ∀ (a0_0 : Int) (a0_1 : Int) (l0_2 : List Int) (a1 : Int) (a2 : Int) (a3 : Int) (a4 : Int), ((Lit.int .i64 a0_0).wf = true ∧ (Lit.int .i64 a0_1).wf = true ∧ l0_2.length * 8 ≤ 140737488351232 ∧ ∀ z ∈ l0_2, (Lit.int .i64 z).wf = true) → ((Lit.int .i64 a1).wf = true) → ((Lit.int .i64 a2).wf = true) → ((Lit.int .i64 a3).wf = true) → ((Lit.int .i64 a4).wf = true) → ∃ k, laws_FnExactModeMay.f k a0_0 a0_1 l0_2 a1 a2 a3 a4 = some true
end Go.Proofs.Ytjokfjjdachpiaa.BdFnExactModeMay
