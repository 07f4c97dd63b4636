/- IsAbelianTable. -/
import Derived.Test.YtiifnnokpjbapaaRRHTI
namespace Go.Proofs.YtiifnnokpjbapaaRR.H
set_option linter.unusedVariables false
set_option linter.unusedSimpArgs false
open Go Go.RowKit Go.Proofs.YtiifnnokpjbapaaRR.Hy
set_option linter.unusedVariables false
set_option linter.unusedSimpArgs false
set_option maxRecDepth 100000
section
variable {ρ : Type} {m : Nat} {of ln : Nat → Nat} {g : Nat → Int}

def symB (m : Nat) (T : Nat → Nat → Int) : Bool := allN (fun i => allN (fun j => decide (T i j = T j i)) 0 m) 0 m
theorem symB_low {T : Nat → Nat → Int} : allN (fun i => allN (fun j => decide (T i j = T j i)) 0 i) 0 m = symB m T := by
  unfold symB
  have : (allN (fun i => allN (fun j => decide (T i j = T j i)) 0 i) 0 m = true) ↔ (allN (fun i => allN (fun j => decide (T i j = T j i)) 0 m) 0 m = true) := by
    simp only [allN_true, decide_eq_true_eq]
    constructor
    · intro h i _ hi j _ hj
      by_cases e : i = j
      · subst e; rfl
      · by_cases l : j < i
        · exact h i (by omega) hi j (by omega) (by omega)
        · exact (h j (by omega) hj i (by omega) (by omega)).symm
    · intro h i h1 hi j h2 hj
      exact h i h1 hi j h2 (by omega)
  by_cases h : allN (fun i => allN (fun j => decide (T i j = T j i)) 0 m) 0 m = true
  · rw [h, this.2 h]
  · have h' : ¬ allN (fun i => allN (fun j => decide (T i j = T j i)) 0 i) 0 m = true := fun e => h (this.1 e)
    simp only [Bool.not_eq_true] at h h'
    rw [h, h']

theorem gt_rows {L : Nat → Nat} {T : Nat → Nat → Int} (h : gtB m L T = true) : Rws m L T := by
  unfold gtB at h
  simp only [Bool.and_eq_true] at h
  exact rows_of h.1

theorem symB_congr {L L' : Nat → Nat} {T T' : Nat → Nat → Int} (h : gtB m L' T' = true) (hL : ∀ i, i < m → L i = L' i) (hT : ∀ i j, i < m → j < L i → T i j = T' i j) : symB m T = symB m T' := by
  have R := gt_rows h
  unfold symB
  refine allN_congr fun i _ hi => allN_congr fun j _ hj => ?_
  rw [hT i j (by omega) (by rw [hL i (by omega), R.len i (by omega)]; omega), hT j i (by omega) (by rw [hL j (by omega), R.len j (by omega)]; omega)]

theorem spec_ab (K : Bool → Int → Option ρ) {a b c : Nat} {cp : Nat → Nat} (hm : m ≤ 1000000) (hl : ∀ i, i < m → ln i ≤ 1000000) : spec_IsAbelianTable_sh 3000000 K m a b c of ln cp g = if gtB m ln (fun i j => g (of i + j)) = true then K (symB m fun i j => g (of i + j)) 0 else K false 1 := by
  unfold spec_IsAbelianTable_sh spec_IsAbelianTable_sh.s
  simp only [offN_zero, spec_group _ hm hl, swB]
  by_cases h : gtB m ln (fun i j => g (of i + j)) = true
  · have R := gt_rows h
    have h8 := R.le
    simp only [h, if_true]
    rw [← symB_low]
    refine Eq.trans (all_at (n := m) (no := K false 0) (out := K true 0) (fun i => allN (fun j => decide (g (of i + j) = g (of j + i))) 0 i) (fun q i hi => ?_) (fun q => ?_) (by omega)) ?_
    · simp only [spec_IsAbelianTable_sh.l0, spec_IsAbelianTable_sh.b0]
      have h1 : (i : Int) < (m : Int) := by omega
      simp only [h1, decide_true, if_true]
      refine all_at (n := i) (fun j => decide (g (of i + j) = g (of j + i))) (fun q' j hj => ?_) (fun q' => ?_) (by omega)
      · simp only [spec_IsAbelianTable_sh.l1, spec_IsAbelianTable_sh.b1]
        have k1 : (j : Int) < (i : Int) := by omega
        have k2 : (0 : Int) ≤ j ∧ (j : Int) < (m : Int) := by omega
        have k3 : (0 : Int) ≤ i ∧ (i : Int) < (m : Int) := by omega
        simp only [k1, k2, k3, decide_true, if_true, and_self, Int.toNat_natCast, Nat.zero_add, Nat.mul_one, R.len i hi, R.len j (show j < m by omega), nxB (show j < 1000000000000 by omega), bne_iff_ne, ne_eq, decide_eq_true_eq]
        by_cases e : g (of i + j) = g (of j + i)
        · simp [e]
        · simp [e]
      · simp only [spec_IsAbelianTable_sh.l1, spec_IsAbelianTable_sh.b1, Int.lt_irrefl, decide_false, Bool.false_eq_true, if_false, spec_IsAbelianTable_sh.a1_0, nxB (show i < 1000000000000 by omega)]
    · simp only [spec_IsAbelianTable_sh.l0, spec_IsAbelianTable_sh.b0, Int.lt_irrefl, decide_false, Bool.false_eq_true, if_false, spec_IsAbelianTable_sh.a0_0]
    · cases allN (fun i => allN (fun j => decide (g (of i + j) = g (of j + i))) 0 i) 0 m <;> rfl
  · have h' : gtB m ln (fun i j => g (of i + j)) = false := by simpa using h
    simp only [h', Bool.false_eq_true, if_false]

theorem impl_ab (K : Bool → Int → Option ρ) {a b c : Nat} {cp : Nat → Nat} (hm : m ≤ 1000000) (hl : ∀ i, i < m → ln i ≤ 1000000) : impl_IsAbelianTable_sh 3000000 K m a b c of ln cp g = if gtB m ln (fun i j => g (of i + j)) = true then K (symB m fun i j => g (of i + j)) 0 else K false 1 := by
  unfold impl_IsAbelianTable_sh impl_IsAbelianTable_sh.s
  simp only [offN_zero, impl_group _ hm hl, swB]
  by_cases h : gtB m ln (fun i j => g (of i + j)) = true
  · have R := gt_rows h
    have h8 := R.le
    simp only [h, if_true]
    unfold symB
    refine Eq.trans (all_at (n := m) (no := K false 0) (out := K true 0) (fun i => allN (fun j => decide (g (of i + j) = g (of j + i))) 0 m) (fun q i hi => ?_) (fun q => ?_) (by omega)) ?_
    · simp only [impl_IsAbelianTable_sh.l0, impl_IsAbelianTable_sh.b0]
      have h1 : (i : Int) < (m : Int) := by omega
      simp only [h1, decide_true, if_true]
      refine all_at (n := m) (fun j => decide (g (of i + j) = g (of j + i))) (fun q' j hj => ?_) (fun q' => ?_) (by omega)
      · simp only [impl_IsAbelianTable_sh.l1, impl_IsAbelianTable_sh.b1]
        have k1 : (j : Int) < (m : Int) := by omega
        have k2 : (0 : Int) ≤ j ∧ (j : Int) < (m : Int) := by omega
        have k3 : (0 : Int) ≤ i ∧ (i : Int) < (m : Int) := by omega
        simp only [k1, k2, k3, decide_true, if_true, and_self, Int.toNat_natCast, Nat.zero_add, Nat.mul_one, R.len i hi, R.len j hj, nxB (show j < 1000000000000 by omega), bne_iff_ne, ne_eq, decide_eq_true_eq]
        by_cases e : g (of i + j) = g (of j + i)
        · simp [e]
        · simp [e]
      · simp only [impl_IsAbelianTable_sh.l1, impl_IsAbelianTable_sh.b1, Int.lt_irrefl, decide_false, Bool.false_eq_true, if_false, impl_IsAbelianTable_sh.a1_0, nxB (show i < 1000000000000 by omega)]
    · simp only [impl_IsAbelianTable_sh.l0, impl_IsAbelianTable_sh.b0, Int.lt_irrefl, decide_false, Bool.false_eq_true, if_false, impl_IsAbelianTable_sh.a0_0]
    · cases allN (fun i => allN (fun j => decide (g (of i + j) = g (of j + i))) 0 m) 0 m <;> rfl
  · have h' : gtB m ln (fun i j => g (of i + j)) = false := by simpa using h
    simp only [h', Bool.false_eq_true, if_false]

theorem sym_copy {bare : Bool} (h : gtB m ln (fun i j => g (of i + j)) = true) : symB m (fun i j => (ts bare m of ln g).g ((ts bare m of ln g).o i + j)) = symB m (fun i j => g (of i + j)) :=
  symB_congr (L := (ts bare m of ln g).l) h (fun i hi => ts_l hi) (fun i j hi hj => ts_g hi (by rw [ts_l hi] at hj; exact hj))

theorem fnExactIsAbelianTable_law (K : Bool → Option ρ) (m n q : Nat) (of ln : Nat → Nat) (w : Nat) (g : Nat → Int) (hm : m ≤ maxLen) (hl : ∀ i, ln i ≤ maxLen) (hg : ∀ z, IntKind.i64.has (g z)) : laws_FnExactIsAbelianTable_suh 3000000 K m n q of ln w g = K true := by
  unfold laws_FnExactIsAbelianTable_suh
  rcases sz_or (g := g) (of := offN 0 of) (ln := offN 0 ln) (m := m) (a := m * 1) (b := q) (c := w) (fun rv7 => if decide (rv7 < 0) = true then K true else _) hm (fun i => hl _) with h | ⟨h1, h2, r, hr, h⟩
  · rw [h]; rfl
  · rw [h]
    have hr' : ¬ r < 0 := by omega
    simp only [hr', decide_false, Bool.false_eq_true, if_false]
    have c0 := copy_le (bare := false) (of := offN 0 of) (g := g) h2
    have c1 := copy_le (bare := true) (of := offN 0 of) (g := g) h2
    simp only [toSS0_eq _ h1 h2, offN_zero (g := (ts false m (offN 0 of) (offN 0 ln) g).o), offN_zero (g := (ts false m (offN 0 of) (offN 0 ln) g).l), offN_zero (g := (ts false m (offN 0 of) (offN 0 ln) g).c), spec_ab _ h1 c0, impl_ab _ h1 c0, gt_copy, inT_of _ h1 h2, toSS1_eq _ _ h1 h2]
    have hn : ∀ X : Bool → Int → Option ρ, impl_IsAbelianTable_n 3000000 X = X false 1 := fun X => by
      unfold impl_IsAbelianTable_n impl_IsAbelianTable_n.s
      rw [group_none]; rfl
    simp only [hn, offN_zero (g := (ts true m (offN 0 of) (offN 0 ln) g).o), offN_zero (g := (ts true m (offN 0 of) (offN 0 ln) g).l), offN_zero (g := (ts true m (offN 0 of) (offN 0 ln) g).c), impl_ab _ h1 c1, gt_copy]
    by_cases G : gtB m (offN 0 ln) (fun i j => g (offN 0 of i + j)) = true
    · have e : ¬ m = 0 := by have := (gt_rows G).pos; omega
      simp only [G, if_true, sym_copy G, e, if_false, beq_self_eq_true, Bool.not_true, Bool.false_eq_true, bne_self_eq_false]
    · have G' : gtB m (offN 0 ln) (fun i j => g (offN 0 of i + j)) = false := by simpa using G
      by_cases e : m = 0
      · subst e; simp [gt_none]
      · simp [G', e]
end
end Go.Proofs.YtiifnnokpjbapaaRR.H
