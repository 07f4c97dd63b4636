/- IsAbelianTable. -/
import Derived.Test.YtiifnnokpjbapaaRRHTI
namespace Go.Proofs.YtiifnnokpjbapaaRR.H
set_option linter.unusedVariables false
set_option linter.unusedSimpArgs false
open Go Go.RowKit Go.Proofs.YtiifnnokpjbapaaRR.Hy
set_option linter.unusedVariables false
set_option linter.unusedSimpArgs false
set_option maxRecDepth 100000
section
variable {ρ : Type} {m : Nat} {of ln : Nat → Nat} {g : Nat → Int}

theorem gt_rows {L : Nat → Nat} {T : Nat → Nat → Int} (h : gtB m L T = true) : Rws m L T := by
  unfold gtB at h
  simp only [Bool.and_eq_true] at h
  exact rows_of h.1

end
end Go.Proofs.YtiifnnokpjbapaaRR.H
