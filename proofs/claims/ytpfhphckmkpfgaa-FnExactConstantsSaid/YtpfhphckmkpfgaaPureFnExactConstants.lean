/- The law FnExactConstants answers true: every exported constant has the value of the specification. No condition. -/
import Derived.Test.YtpfhphckmkpfgaaPFnExactConstantsx1
namespace Go.Proofs.Ytpfhphckmkpfgaa.Pure
open Go.RowKit Go.Proofs.Ytpfhphckmkpfgaa.PFnExactConstants Go.Proofs.YtpfhphckmkpfgaaW.PrintWords Go.Proofs.YtpfhphckmkpfgaaW.PrintLast Go.Proofs.YtpfhphckmkpfgaaW.PrintMore
theorem FnExactConstants : laws_FnExactConstants.Pure := rfl
end Go.Proofs.Ytpfhphckmkpfgaa.Pure
