/- Copies are intact; IsGroupTable. -/
import Derived.Test.YtiifnnokpjbapaaRRHTG
namespace Go.Proofs.YtiifnnokpjbapaaRR.H
set_option linter.unusedVariables false
set_option linter.unusedSimpArgs false
open Go Go.RowKit Go.Proofs.YtiifnnokpjbapaaRR.Hy
set_option linter.unusedVariables false
set_option linter.unusedSimpArgs false
set_option maxRecDepth 100000

section
variable {ρ σ : Type}

theorem eqS_of (K : Bool → Option ρ) {n a b c d : Nat} {g g' : Nat → Int} (hn : n < 3000000) (h : ∀ z, z < n → g z = g' z) : laws_eqInt64S_ss 3000000 K n a n b c g d g' = K true := by
  unfold laws_eqInt64S_ss laws_eqInt64S_ss.s
  simp only [bne_self_eq_false, Bool.false_eq_true, if_false]
  refine go_at (n := n) (fun q i hi => ?_) (fun q => ?_) hn
  · simp only [laws_eqInt64S_ss.l0, laws_eqInt64S_ss.b0]
    have h1 : (i : Int) < (n : Int) := by omega
    have h2 : (0 : Int) ≤ i ∧ (i : Int) < (n : Int) := by omega
    simp only [h1, h2, decide_true, if_true, and_self, Int.toNat_natCast, Nat.zero_add, Nat.mul_one, h i hi, bne_self_eq_false, Bool.false_eq_true, if_false, nxB (show i < 1000000000000 by omega)]
  · simp only [laws_eqInt64S_ss.l0, laws_eqInt64S_ss.b0, Int.lt_irrefl, decide_false, Bool.false_eq_true, if_false, laws_eqInt64S_ss.a0_0]

theorem eqSS_of (K : Bool → Option ρ) {m a b e1 e2 e3 e4 : Nat} {of ln cp of' ln' cp' : Nat → Nat} {g g' : Nat → Int} (hm : m < 3000000) (hl : ∀ i, i < m → ln i = ln' i ∧ ln i < 3000000) (h : ∀ i z, i < m → z < ln i → g (of i + z) = g' (of' i + z)) :
    laws_eqInt64SS_shsh 3000000 K m a m b e1 e2 of ln cp e3 e4 of' ln' cp' g g' = K true := by
  unfold laws_eqInt64SS_shsh laws_eqInt64SS_shsh.s
  simp only [bne_self_eq_false, Bool.false_eq_true, if_false]
  refine go_at (n := m) (fun q i hi => ?_) (fun q => ?_) hm
  · simp only [laws_eqInt64SS_shsh.l0, laws_eqInt64SS_shsh.b0]
    have h1 : (i : Int) < (m : Int) := by omega
    have h2 : (0 : Int) ≤ i ∧ (i : Int) < (m : Int) := by omega
    simp only [h1, h2, decide_true, if_true, and_self, Int.toNat_natCast, Nat.zero_add, Nat.mul_one, nxB (show i < 1000000000000 by omega)]
    rw [← (hl i hi).1, eqS_of _ (hl i hi).2 (fun z hz => h i z hi hz)]
    rfl
  · simp only [laws_eqInt64SS_shsh.l0, laws_eqInt64SS_shsh.b0, Int.lt_irrefl, decide_false, Bool.false_eq_true, if_false, laws_eqInt64SS_shsh.a0_0]

theorem inS_of (K : Bool → Option ρ) {n c d e : Nat} {g : Nat → Int} (hn : n ≤ 1000000) (hc : c = cpR n) : laws_intactInt64S_ss 3000000 K n c n c d g e g = K true := by
  subst hc
  have h := cpR_le (n := n)
  have h' := le_cpR (n := n)
  have hw : IntKind.i64.wrap ((n : Int) + ((rb n : Nat) : Int)) = ((cpR n : Nat) : Int) := by
    have := rb_le (n := n)
    rw [addB (by omega) (by omega)]; rfl
  unfold laws_intactInt64S_ss
  rw [room_eq]
  have h1 : (0 : Int) ≤ (0 : Int) ∧ (0 : Int) ≤ ((cpR n : Nat) : Int) ∧ ((cpR n : Nat) : Int) ≤ ((cpR n : Nat) : Int) := ⟨by omega, by omega, by omega⟩
  simp only [beq_self_eq_true, if_true, hw, h1, and_self, Int.toNat_natCast]
  exact eqS_of _ (by omega) (fun z _ => rfl)

/-- a copy is as another copy of the same -/
theorem inSS_of (K : Bool → Option ρ) {m e1 e2 e3 e4 : Nat} {of ln cp : Nat → Nat} {g : Nat → Int} (hm : m ≤ 1000000) (hl : ∀ i, i < m → ln i ≤ 1000000 ∧ cp i = cpR (ln i)) (hs : ∀ i, m ≤ i → i < m + rb m → ln i = 1) :
    laws_intactInt64SS_shsh 3000000 K m (cpR m) m (cpR m) e1 e2 of ln cp e3 e4 of ln cp g g = K true := by
  have h := cpR_le (n := m)
  have h' := le_cpR (n := m)
  have hw : IntKind.i64.wrap ((m : Int) + ((rb m : Nat) : Int)) = ((cpR m : Nat) : Int) := by
    have := rb_le (n := m)
    rw [addB (by omega) (by omega)]; rfl
  unfold laws_intactInt64SS_shsh laws_intactInt64SS_shsh.s
  rw [room_eq]
  simp only [bne_self_eq_false, Bool.false_eq_true, if_false]
  refine go_at (n := m) (fun q i hi => ?_) (fun q => ?_) (by omega)
  · simp only [laws_intactInt64SS_shsh.l0, laws_intactInt64SS_shsh.b0]
    have h1 : (i : Int) < (m : Int) := by omega
    have h2 : (0 : Int) ≤ i ∧ (i : Int) < (m : Int) := by omega
    simp only [h1, h2, decide_true, if_true, and_self, Int.toNat_natCast, Nat.zero_add, Nat.mul_one, nxB (show i < 1000000000000 by omega)]
    rw [inS_of _ (hl i hi).1 (hl i hi).2]
    rfl
  · simp only [laws_intactInt64SS_shsh.l0, laws_intactInt64SS_shsh.b0, Int.lt_irrefl, decide_false, Bool.false_eq_true, if_false, laws_intactInt64SS_shsh.a0_0, hw]
    have h1 : (0 : Int) ≤ (m : Int) ∧ (m : Int) ≤ ((cpR m : Nat) : Int) ∧ ((cpR m : Nat) : Int) ≤ ((cpR m : Nat) : Int) := ⟨by omega, by omega, by omega⟩
    simp only [h1, and_self, if_true, Int.toNat_natCast, Nat.mul_one, Nat.zero_add]
    refine eqSS_of _ (by omega) (fun i hi => ?_) (fun i z _ _ => rfl)
    refine ⟨rfl, ?_⟩
    have : ln (m + i) = 1 := hs _ (by omega) (by have : cpR m = m + rb m := rfl; omega)
    show ln (m + i) < 3000000
    omega

theorem inT_of (K : Bool → Option ρ) {m e1 e2 e3 e4 : Nat} {of ln : Nat → Nat} {g : Nat → Int} (hm : m ≤ 1000000) (hl : ∀ i, i < m → ln i ≤ 1000000) :
    laws_intactInt64SS_shsh 3000000 K m (cpR m) m (cpR m) e1 e2 (ts false m of ln g).o (ts false m of ln g).l (ts false m of ln g).c e3 e4 (ts false m of ln g).o (ts false m of ln g).l (ts false m of ln g).c (ts false m of ln g).g (ts false m of ln g).g = K true :=
  inSS_of K hm (fun i hi => ⟨by rw [ts_l hi]; exact hl i hi, by rw [ts_c hi, ts_l hi]; rfl⟩) (fun i h1 h2 => (ts_sp h1 h2).1)

theorem gt_copy {bare : Bool} {m : Nat} {of ln : Nat → Nat} {g : Nat → Int} : gtB m (ts bare m of ln g).l (fun i j => (ts bare m of ln g).g ((ts bare m of ln g).o i + j)) = gtB m ln (fun i j => g (of i + j)) :=
  gtB_congr (fun i hi => ts_l hi) (fun i j hi hj => ts_g hi (by rw [ts_l hi] at hj; exact hj))

theorem copy_le {bare : Bool} {m : Nat} {of ln : Nat → Nat} {g : Nat → Int} (hl : ∀ i, i < m → ln i ≤ 1000000) : ∀ i, i < m → (ts bare m of ln g).l i ≤ 1000000 := fun i hi => by rw [ts_l hi]; exact hl i hi

theorem group_none (K : Bool → Option ρ) : impl_IsGroupTable_n 3000000 K = K false := by
  unfold impl_IsGroupTable_n impl_IsGroupTable_n.s impl_isRows_n impl_isRows_n.s
  rw [impl_inT]
  rfl

end
end Go.Proofs.YtiifnnokpjbapaaRR.H
