/- The bounds that a reading of the law FnExactPipeReady's parameters owes, and the law's pure statement. -/
import Derived.Test.YtpholngikeekdaaPFnExactPipeReadyx1
namespace Go.Proofs.Ytpholngikeekdaa.BdFnExactPipeReady
open Go.RowKit Go.Proofs.Ytpholngikeekdaa.PFnExactPipeReady Go.Proofs.YtpholngikeekdaaW.PrintWords Go.Proofs.YtpholngikeekdaaW.PrintLast

def Pure : Prop := ∀ (a0_0 : ByteArray) (a0_1 : Int) (a0_2 : Int), (a0_0.size ≤ 140737488351232 ∧ (Lit.int .i64 a0_1).wf = true ∧ (Lit.int .i64 a0_2).wf = true) → laws_FnExactPipeReady.f a0_0 a0_1 a0_2 = some true
end Go.Proofs.Ytpholngikeekdaa.BdFnExactPipeReady
