/- IsGroupTable. -/
import Derived.Test.YtiifnnokpjbapaaRRHTI
namespace Go.Proofs.YtiifnnokpjbapaaRR.H
set_option linter.unusedVariables false
set_option linter.unusedSimpArgs false
open Go Go.RowKit Go.Proofs.YtiifnnokpjbapaaRR.Hy
set_option linter.unusedVariables false
set_option linter.unusedSimpArgs false
set_option maxRecDepth 100000
section
variable {ρ : Type}

theorem fnExactIsGroupTable_law (K : Bool → Option ρ) (m n q : Nat) (of ln : Nat → Nat) (w : Nat) (g : Nat → Int) (hm : m ≤ maxLen) (hl : ∀ i, ln i ≤ maxLen) (hg : ∀ z, IntKind.i64.has (g z)) : laws_FnExactIsGroupTable_suh 3000000 K m n q of ln w g = K true := by
  unfold laws_FnExactIsGroupTable_suh
  rcases sz_or (g := g) (of := offN 0 of) (ln := offN 0 ln) (m := m) (a := m * 1) (b := q) (c := w) (fun rv7 => if decide (rv7 < 0) = true then K true else _) hm (fun i => hl _) with h | ⟨h1, h2, r, hr, h⟩
  · rw [h]; rfl
  · rw [h]
    have hr' : ¬ r < 0 := by omega
    simp only [hr', decide_false, Bool.false_eq_true, if_false]
    have c0 := copy_le (bare := false) (of := offN 0 of) (g := g) h2
    have c1 := copy_le (bare := true) (of := offN 0 of) (g := g) h2
    simp only [toSS0_eq _ h1 h2, spec_IsGroupTable_sh, offN_zero (g := (ts false m (offN 0 of) (offN 0 ln) g).o), offN_zero (g := (ts false m (offN 0 of) (offN 0 ln) g).l), offN_zero (g := (ts false m (offN 0 of) (offN 0 ln) g).c), spec_group _ h1 c0, impl_group _ h1 c0, gt_copy, beq_self_eq_true, Bool.not_true, Bool.false_eq_true, if_false, inT_of _ h1 h2, toSS1_eq _ _ h1 h2, group_none]
    by_cases e : m = 0
    · subst e
      rw [if_pos rfl, gt_none]; rfl
    · rw [if_neg e]
      simp only [offN_zero (g := (ts true m (offN 0 of) (offN 0 ln) g).o), offN_zero (g := (ts true m (offN 0 of) (offN 0 ln) g).l), offN_zero (g := (ts true m (offN 0 of) (offN 0 ln) g).c), impl_group _ h1 c1, gt_copy, beq_self_eq_true, Bool.not_true, Bool.false_eq_true, if_false]
end
end Go.Proofs.YtiifnnokpjbapaaRR.H
