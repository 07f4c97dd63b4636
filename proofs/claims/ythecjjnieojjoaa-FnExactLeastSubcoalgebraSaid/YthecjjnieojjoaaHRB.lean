/- The room behind a copy; loops that begin anywhere. -/
import Derived.Test.YthecjjnieojjoaaHP0
import Derived.Test.YthecjjnieojjoaaHyMath
import Derived.KernelRfl
namespace Go.Proofs.Ythecjjnieojjoaa.H
set_option linter.unusedVariables false
set_option linter.unusedSimpArgs false
open Go Go.RowKit Go.Proofs.Ythecjjnieojjoaa.Hy
set_option linter.unusedVariables false
set_option linter.unusedSimpArgs false
set_option maxRecDepth 100000

section
variable {ρ σ : Type}

theorem nxB {i : Nat} (h : i < 1000000000000) : IntKind.i64.wrap ((i : Int) + 1) = ((i + 1 : Nat) : Int) := by
  rw [wrap64_id (by omega) (by omega)]; omega
end
end Go.Proofs.Ythecjjnieojjoaa.H
