/- The bounds that a reading of the law FnExactFsNew's parameters owes, and the law's pure statement. -/
import Derived.Test.YtjajfbgijailmaaXFnExactFsNewx5
namespace Go.Proofs.Ytjajfbgijailmaa.BdFnExactFsNew
open Go.RowKit Go.Proofs.Ytjajfbgijailmaa.XFnExactFsNew Go.Proofs.YtjajfbgijailmaaW.PrintWords Go.Proofs.YtjajfbgijailmaaW.PrintLast

def Pure : Prop := ∀ (a0 : Int) (a1 : Int), ((Lit.int .i64 a0).wf = true) → ((Lit.int .i64 a1).wf = true) → ∃ k, laws_FnExactFsNew.f k a0 a1 = some true
end Go.Proofs.Ytjajfbgijailmaa.BdFnExactFsNew
