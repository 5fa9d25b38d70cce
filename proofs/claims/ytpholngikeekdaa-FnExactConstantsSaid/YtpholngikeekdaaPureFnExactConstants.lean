/- The constants of the program are those of the document. -/
import Derived.Test.YtpholngikeekdaaPFnExactConstantsx1
namespace Go.Proofs.Ytpholngikeekdaa.Pure
open Go.RowKit Go.Proofs.Ytpholngikeekdaa.PFnExactConstants Go.Proofs.YtpholngikeekdaaW.PrintWords Go.Proofs.YtpholngikeekdaaW.PrintLast

theorem FnExactConstants : laws_FnExactConstants.Pure := rfl

end Go.Proofs.Ytpholngikeekdaa.Pure
