/- Constants: the law's own value is true, for no argument. -/
import Derived.Test.YtdlhegdigcdffaaPFnExactConstantsx1
namespace Go.Proofs.Ytdlhegdigcdffaa.Pure
open Go.RowKit Go.Proofs.Ytdlhegdigcdffaa.PFnExactConstants Go.Proofs.YtdlhegdigcdffaaW.PrintWords Go.Proofs.YtdlhegdigcdffaaW.PrintLast

theorem FnExactConstants : laws_FnExactConstants.Pure := rfl

end Go.Proofs.Ytdlhegdigcdffaa.Pure
