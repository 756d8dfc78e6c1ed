/- Each exported constant of the program is the document's: the statement's function answers true. No condition. -/
import Derived.Test.YtiennogfdnlfiaaPFnExactConstantsx1
namespace Go.Proofs.Ytiennogfdnlfiaa.Pure
open Go.RowKit Go.Proofs.Ytiennogfdnlfiaa.PFnExactConstants Go.Proofs.YtiennogfdnlfiaaW.PrintWords Go.Proofs.YtiennogfdnlfiaaW.PrintLast

theorem FnExactConstants : laws_FnExactConstants.Pure := by
  rfl

end Go.Proofs.Ytiennogfdnlfiaa.Pure
