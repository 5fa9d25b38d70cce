/- The bounds that a reading of the law FnExactPagesRoom's parameters owes, and the law's pure statement. -/
import Derived.Test.YtjajfbgijailmaaPFnExactPagesRoomx3
namespace Go.Proofs.Ytjajfbgijailmaa.BdFnExactPagesRoom
open Go.RowKit Go.Proofs.Ytjajfbgijailmaa.PFnExactPagesRoom Go.Proofs.YtjajfbgijailmaaW.PrintWords Go.Proofs.YtjajfbgijailmaaW.PrintLast

def Pure : Prop := ∀ (l0_0 : List ByteArray) (l0_1 : List Int), ((l0_0.length * 16 ≤ 140737488351232 ∧ ∀ z ∈ l0_0, z.size ≤ 140737488351232) ∧ l0_1.length * 8 ≤ 140737488351232 ∧ ∀ z ∈ l0_1, (Lit.int .i64 z).wf = true) → ∃ k, laws_FnExactPagesRoom.f k l0_0 l0_1 = some true
end Go.Proofs.Ytjajfbgijailmaa.BdFnExactPagesRoom
