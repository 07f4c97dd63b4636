/- OrdersIn: the law. -/
import Derived.Test.YtiifnnokpjbapaaRRHTO
namespace Go.Proofs.YtiifnnokpjbapaaRR.H
set_option linter.unusedVariables false
set_option linter.unusedSimpArgs false
open Go Go.RowKit Go.Proofs.YtiifnnokpjbapaaRR.Hy
set_option linter.unusedVariables false
set_option linter.unusedSimpArgs false
set_option maxRecDepth 100000
section
variable {ρ : Type} {m : Nat} {of ln : Nat → Nat} {g : Nat → Int}

theorem fnExactOrdersIn_law (K : Bool → Option ρ) (m n q : Nat) (of ln : Nat → Nat) (w : Nat) (g : Nat → Int) (hm : m ≤ maxLen) (hl : ∀ i, ln i ≤ maxLen) (hg : ∀ z, IntKind.i64.has (g z)) : laws_FnExactOrdersIn_suh 3000000 K m n q of ln w g = K true := by
  unfold laws_FnExactOrdersIn_suh
  rcases sz_or (g := g) (of := offN 0 of) (ln := offN 0 ln) (m := m) (a := m * 1) (b := q) (c := w) (fun rv7 => if decide (rv7 < 0) = true then K true else _) hm (fun i => hl _) with h | ⟨h1, h2, r, hr, h⟩
  · rw [h]; rfl
  · rw [h]
    have hr' : ¬ r < 0 := by omega
    simp only [hr', decide_false, Bool.false_eq_true, if_false]
    have c0 := copy_le (bare := false) (of := offN 0 of) (g := g) h2
    have c1 := copy_le (bare := true) (of := offN 0 of) (g := g) h2
    have hn : ∀ X : Nat → Int → (Nat → Int) → Option ρ, impl_OrdersIn_n 3000000 X = X 0 1 (fun _ => 0) := fun X => by
      unfold impl_OrdersIn_n impl_OrdersIn_n.s
      rw [group_none]; rfl
    -- what both answer
    obtain ⟨rn, rc, rg, h8, hs, hi0, hi1⟩ : ∃ (rn : Nat) (rc : Int) (rg : Nat → Int), rn ≤ 8 ∧
        (∀ (a b c : Nat) (cp : Nat → Nat) (X : Nat → Int → (Nat → Int) → Option ρ), spec_OrdersIn_sh 3000000 X m a b c (ts false m (offN 0 of) (offN 0 ln) g).o (ts false m (offN 0 of) (offN 0 ln) g).l cp (ts false m (offN 0 of) (offN 0 ln) g).g = X rn rc rg) ∧
        (∀ (a b c : Nat) (cp : Nat → Nat) (X : Nat → Int → (Nat → Int) → Option ρ), impl_OrdersIn_sh 3000000 X m a b c (ts false m (offN 0 of) (offN 0 ln) g).o (ts false m (offN 0 of) (offN 0 ln) g).l cp (ts false m (offN 0 of) (offN 0 ln) g).g = X rn rc rg) ∧
        (∀ (a b c : Nat) (cp : Nat → Nat) (X : Nat → Int → (Nat → Int) → Option ρ), (if m = 0 then impl_OrdersIn_n 3000000 X else impl_OrdersIn_sh 3000000 X m a b c (ts true m (offN 0 of) (offN 0 ln) g).o (ts true m (offN 0 of) (offN 0 ln) g).l cp (ts true m (offN 0 of) (offN 0 ln) g).g) = X rn rc rg) := by
      by_cases G : gtB m (offN 0 ln) (fun i j => g (offN 0 of i + j)) = true
      · have e : ¬ m = 0 := by have := (gt_rows G).pos; omega
        refine ⟨m, 0, ordG m (fun i j => g (offN 0 of i + j)) m, (gt_rows G).le, fun a b c cp X => ?_, fun a b c cp X => ?_, fun a b c cp X => ?_⟩
        · rw [spec_ord _ h1 c0, gt_copy, if_pos G, ord_copy G]
        · rw [impl_ord _ h1 c0, gt_copy, if_pos G, ord_copy G]
        · rw [if_neg e, impl_ord _ h1 c1, gt_copy, if_pos G, ord_copy G]
      · refine ⟨0, 1, fun _ => 0, by omega, fun a b c cp X => ?_, fun a b c cp X => ?_, fun a b c cp X => ?_⟩
        · rw [spec_ord _ h1 c0, gt_copy, if_neg G]
        · rw [impl_ord _ h1 c0, gt_copy, if_neg G]
        · by_cases e : m = 0
          · rw [if_pos e, hn]
          · rw [if_neg e, impl_ord _ h1 c1, gt_copy, if_neg G]
    have hmk : ∀ X : Int → (Nat → Int) → Option ρ, laws_markInt64SS_sh 3000000 X m (cpR m) (101 : Int) (cpR m * 1) (ts false m (offN 0 of) (offN 0 ln) g).q (ts false m (offN 0 of) (offN 0 ln) g).o (ts false m (offN 0 of) (offN 0 ln) g).l (ts false m (offN 0 of) (offN 0 ln) g).c (ts false m (offN 0 of) (offN 0 ln) g).g = X _ _ := fun X => markT X h1 c0 101 (by omega)
    generalize (mkS 101 (ts false m (offN 0 of) (offN 0 ln) g).o (ts false m (offN 0 of) (offN 0 ln) g).l (ts false m (offN 0 of) (offN 0 ln) g).c (ts false m (offN 0 of) (offN 0 ln) g).g m) = MM at hmk
    obtain ⟨mr, mg⟩ := MM
    simp only [toSS0_eq _ h1 h2, offN_zero (g := (ts false m (offN 0 of) (offN 0 ln) g).o), offN_zero (g := (ts false m (offN 0 of) (offN 0 ln) g).l), offN_zero (g := (ts false m (offN 0 of) (offN 0 ln) g).c), hs, hi0]
    refine Eq.trans (eqU_of _ (by omega) (fun z _ => rfl)) ?_
    simp only [Bool.not_true, Bool.false_eq_true, if_false, bne_self_eq_false, inT_of _ h1 h2, hmk]
    have hmp : ¬ ((mr : Nat) : Int) < 0 := by omega
    simp only [hmp, decide_false, Bool.false_eq_true, if_false]
    refine Eq.trans (eqU_of _ (by omega) (fun z _ => rfl)) ?_
    simp only [Bool.not_true, Bool.false_eq_true, if_false, bne_self_eq_false, toSS1_eq _ _ h1 h2, offN_zero (g := (ts true m (offN 0 of) (offN 0 ln) g).o), offN_zero (g := (ts true m (offN 0 of) (offN 0 ln) g).l), offN_zero (g := (ts true m (offN 0 of) (offN 0 ln) g).c), hi1]
    have e101 : (101 : Int) = ((101 : Nat) : Int) := rfl
    have hh : ∀ z, z < rn → (fun z => updN rg 0 (rn * 1) (mkI 101 (fun z => rg (0 + z)) rn) (0 + z)) z = ((101 + z : Nat) : Int) := by
      intro z hz
      simp only [updN, mkI, Nat.zero_add, Nat.mul_one]
      rw [if_pos (by omega), Nat.sub_zero, if_pos hz]
    have hp : ¬ ((101 + rn : Nat) : Int) < 0 := by omega
    refine Eq.trans (markU (k := 101) _ (by omega) (by omega)) ?_
    refine Eq.trans (heldU (k := 101) _ (by omega) (by omega) hh) ?_
    simp only [hp, decide_false, Bool.false_eq_true, if_false, bne_self_eq_false]
    refine Eq.trans (eqU_of _ (by omega) (fun z _ => rfl)) ?_
    simp only [Bool.not_true, Bool.false_eq_true, if_false, bne_self_eq_false]
    refine Eq.trans (heldU (k := 101) _ (by omega) (by omega) hh) ?_
    simp only [hp, decide_false, Bool.false_eq_true, if_false, bne_self_eq_false]
end
end Go.Proofs.YtiifnnokpjbapaaRR.H
