/- The bounds that a reading of the law FnExactPagesGet's parameters owes, and the law's pure statement. -/
import Derived.Test.YtahncndhlpdegaaPFnExactPagesGetx4
namespace Go.Proofs.Ytahncndhlpdegaa.BdFnExactPagesGet
open Go.RowKit Go.Proofs.Ytahncndhlpdegaa.PFnExactPagesGet Go.Proofs.YtahncndhlpdegaaW.PrintWords Go.Proofs.YtahncndhlpdegaaW.PrintLast

def Pure : Prop := ∀ (l0_0 : List ByteArray) (l0_1 : List Int) (a1 : Int), ((l0_0.length * 16 ≤ 140737488351232 ∧ ∀ z ∈ l0_0, z.size ≤ 140737488351232) ∧ l0_1.length * 8 ≤ 140737488351232 ∧ ∀ z ∈ l0_1, (Lit.int .i64 z).wf = true) → ((Lit.int .i64 a1).wf = true) → ∃ k, laws_FnExactPagesGet.f k l0_0 l0_1 a1 = some true
end Go.Proofs.Ytahncndhlpdegaa.BdFnExactPagesGet
