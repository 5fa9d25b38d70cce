/- The bounds that a reading of the law FnExactAreaOk's parameters owes, and the law's pure statement. -/
import Derived.Test.YtpholngikeekdaaPFnExactAreaOkx1
namespace Go.Proofs.Ytpholngikeekdaa.BdFnExactAreaOk
open Go.RowKit Go.Proofs.Ytpholngikeekdaa.PFnExactAreaOk Go.Proofs.YtpholngikeekdaaW.PrintWords Go.Proofs.YtpholngikeekdaaW.PrintLast

def Pure : Prop := ∀ (a0_0 : Int) (a0_1 : Int) (a0_2 : Bool) (a0_3 : Bool), ((Lit.int .i64 a0_0).wf = true ∧ (Lit.int .i64 a0_1).wf = true ∧ True ∧ True) → laws_FnExactAreaOk.f a0_0 a0_1 a0_2 a0_3 = some true
end Go.Proofs.Ytpholngikeekdaa.BdFnExactAreaOk
