import Derived.Test.YtcdogefmbenplaaDoorHP0
import Derived.KernelRfl
namespace Go.Proofs.YtcdogefmbenplaaDoor.H
set_option linter.unusedVariables false
set_option linter.unusedSimpArgs false
set_option linter.unusedSectionVars false
open Go Go.RowKit Go.Proofs.YtcdogefmbenplaaDoor.Hg
set_option maxRecDepth 100000
theorem fnExactKnownNames_law {ρ : Type} (K : Bool → Option ρ) : laws_FnExactKnownNames 5000 K = K true := by kernel_rfl
end Go.Proofs.YtcdogefmbenplaaDoor.H
