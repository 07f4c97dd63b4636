/- Lists and tables of numbers, marked and held. -/
import Derived.Test.YtiifnnokpjbapaaRRHTI
namespace Go.Proofs.YtiifnnokpjbapaaRR.H
set_option linter.unusedVariables false
set_option linter.unusedSimpArgs false
open Go Go.RowKit Go.Proofs.YtiifnnokpjbapaaRR.Hy
set_option linter.unusedVariables false
set_option linter.unusedSimpArgs false
set_option maxRecDepth 100000
section
variable {ρ : Type} {m : Nat} {of ln : Nat → Nat} {g : Nat → Int}

theorem eqU_of (K : Bool → Option ρ) {n b d : Nat} {g g' : Nat → Int} (hn : n < 3000000) (h : ∀ z, z < n → g z = g' z) : laws_eqInt64S_susu 3000000 K n n b g d g' = K true := by
  unfold laws_eqInt64S_susu laws_eqInt64S_susu.s
  simp only [bne_self_eq_false, Bool.false_eq_true, if_false]
  refine go_at (n := n) (fun q i hi => ?_) (fun q => ?_) hn
  · simp only [laws_eqInt64S_susu.l0, laws_eqInt64S_susu.b0]
    have h1 : (i : Int) < (n : Int) := by omega
    have h2 : (0 : Int) ≤ i ∧ (i : Int) < (n : Int) := by omega
    simp only [h1, h2, decide_true, if_true, and_self, Int.toNat_natCast, Nat.zero_add, Nat.mul_one, h i hi, bne_self_eq_false, Bool.false_eq_true, if_false, nxB (show i < 1000000000000 by omega)]
  · simp only [laws_eqInt64S_susu.l0, laws_eqInt64S_susu.b0, Int.lt_irrefl, decide_false, Bool.false_eq_true, if_false, laws_eqInt64S_susu.a0_0]

/-- the first n are k, k + 1, .. -/
def mkI (k : Nat) (g : Nat → Int) (n : Nat) : Nat → Int := fun z => if z < n then ((k + z : Nat) : Int) else g z
theorem mkI_zero {k : Nat} : mkI k g 0 = g := by funext z; simp [mkI]
theorem mkI_next {k n : Nat} : upd (mkI k g n) n ((k + n : Nat) : Int) = mkI k g (n + 1) := by
  funext z
  unfold upd mkI
  by_cases h : z = n
  · subst h; rw [if_pos rfl, if_pos (by omega)]
  · rw [if_neg h]
    by_cases h2 : z < n
    · rw [if_pos h2, if_pos (by omega)]
    · rw [if_neg h2, if_neg (by omega)]

theorem nxK {k i : Nat} (h : k < 1000000000000000) (h' : i < 1000000000000) : IntKind.i64.wrap (((k + i : Nat) : Int) + 1) = ((k + (i + 1) : Nat) : Int) := by
  rw [wrap64_id (by omega) (by omega)]; omega

theorem markS (K : Int → (Nat → Int) → Option ρ) {n a c k : Nat} (hn : n ≤ 1000000) (hk : k < 1000000000000000) : laws_markInt64S_s 3000000 K n a (k : Int) c g = K ((k + n : Nat) : Int) (mkI k g n) := by
  unfold laws_markInt64S_s laws_markInt64S_s.s
  refine loop_tat (n := n) (fun i => ((k + i : Nat) : Int)) (fun i => mkI k g i) (by simp) mkI_zero.symm (fun q i hi => ?_) (fun q => ?_) (by omega)
  · simp only [laws_markInt64S_s.l0, laws_markInt64S_s.b0]
    have h1 : (i : Int) < (n : Int) := by omega
    have h2 : (0 : Int) ≤ i ∧ (i : Int) < (n : Int) := by omega
    simp only [h1, h2, decide_true, if_true, and_self, Int.toNat_natCast, Nat.zero_add, Nat.mul_one, nxB (show i < 1000000000000 by omega), nxK hk (show i < 1000000000000 by omega), mkI_next]
  · simp only [laws_markInt64S_s.l0, laws_markInt64S_s.b0, Int.lt_irrefl, decide_false, Bool.false_eq_true, if_false, laws_markInt64S_s.a0_0]

theorem markU (K : Int → (Nat → Int) → Option ρ) {n c k : Nat} (hn : n ≤ 1000000) (hk : k < 1000000000000000) : laws_markInt64S_su 3000000 K n (k : Int) c g = K ((k + n : Nat) : Int) (mkI k g n) := by
  unfold laws_markInt64S_su laws_markInt64S_su.s
  refine loop_tat (n := n) (fun i => ((k + i : Nat) : Int)) (fun i => mkI k g i) (by simp) mkI_zero.symm (fun q i hi => ?_) (fun q => ?_) (by omega)
  · simp only [laws_markInt64S_su.l0, laws_markInt64S_su.b0]
    have h1 : (i : Int) < (n : Int) := by omega
    have h2 : (0 : Int) ≤ i ∧ (i : Int) < (n : Int) := by omega
    simp only [h1, h2, decide_true, if_true, and_self, Int.toNat_natCast, Nat.zero_add, Nat.mul_one, nxB (show i < 1000000000000 by omega), nxK hk (show i < 1000000000000 by omega), mkI_next]
  · simp only [laws_markInt64S_su.l0, laws_markInt64S_su.b0, Int.lt_irrefl, decide_false, Bool.false_eq_true, if_false, laws_markInt64S_su.a0_0]

theorem heldU (K : Int → Option ρ) {n c k : Nat} (hn : n ≤ 1000000) (hk : k < 1000000000000000) (h : ∀ z, z < n → g z = ((k + z : Nat) : Int)) : laws_heldInt64S_su 3000000 K n (k : Int) c g = K ((k + n : Nat) : Int) := by
  unfold laws_heldInt64S_su laws_heldInt64S_su.s
  refine loop_ta (n := n) (fun i => ((k + i : Nat) : Int)) (by simp) (fun q i hi => ?_) (fun q => ?_) (by omega)
  · simp only [laws_heldInt64S_su.l0, laws_heldInt64S_su.b0]
    have h1 : (i : Int) < (n : Int) := by omega
    have h2 : (0 : Int) ≤ i ∧ (i : Int) < (n : Int) := by omega
    simp only [h1, h2, decide_true, if_true, and_self, Int.toNat_natCast, Nat.zero_add, Nat.mul_one, nxB (show i < 1000000000000 by omega), nxK hk (show i < 1000000000000 by omega), h i hi, bne_self_eq_false, Bool.false_eq_true, if_false]
  · simp only [laws_heldInt64S_su.l0, laws_heldInt64S_su.b0, Int.lt_irrefl, decide_false, Bool.false_eq_true, if_false, laws_heldInt64S_su.a0_0]

/-- a table that is being marked -/
def mkS (k0 : Nat) (of ln cp : Nat → Nat) (g : Nat → Int) : Nat → Nat × (Nat → Int)
  | 0 => (k0, g)
  | i + 1 => ((mkS k0 of ln cp g i).1 + ln i, updN (mkS k0 of ln cp g i).2 (of i) (cp i) (mkI (mkS k0 of ln cp g i).1 (fun z => (mkS k0 of ln cp g i).2 (of i + z)) (ln i)))

theorem mkS_le {k0 : Nat} {cp : Nat → Nat} : ∀ {i : Nat}, (∀ j, j < i → ln j ≤ 1000000) → (mkS k0 of ln cp g i).1 ≤ k0 + i * 1000000
  | 0, _ => by simp [mkS]
  | i + 1, h => by
    have h1 := mkS_le (k0 := k0) (cp := cp) (i := i) fun j hj => h j (by omega)
    have h2 := h i (by omega)
    simp only [mkS]; omega

theorem markT (K : Int → (Nat → Int) → Option ρ) {a c e : Nat} {cp : Nat → Nat} (hm : m ≤ 1000000) (hl : ∀ i, i < m → ln i ≤ 1000000) (k0 : Nat) (hk0 : k0 ≤ 10000000000000) : laws_markInt64SS_sh 3000000 K m a (k0 : Int) c e of ln cp g = K ((mkS k0 of ln cp g m).1 : Int) (mkS k0 of ln cp g m).2 := by
  unfold laws_markInt64SS_sh laws_markInt64SS_sh.s
  refine loop_tat (n := m) (fun i => (((mkS k0 of ln cp g i).1 : Nat) : Int)) (fun i => (mkS k0 of ln cp g i).2) rfl rfl (fun q i hi => ?_) (fun q => ?_) (by omega)
  · have h1 : (i : Int) < (m : Int) := by omega
    have h2 : (0 : Int) ≤ i ∧ (i : Int) < (m : Int) := by omega
    have h3 := hl i hi
    have h4 := mkS_le (k0 := k0) (of := of) (cp := cp) (g := g) (i := i) fun j hj => hl j (by omega)
    simp only [laws_markInt64SS_sh.l0, laws_markInt64SS_sh.b0, h1, h2, decide_true, if_true, and_self, Int.toNat_natCast, Nat.zero_add, Nat.mul_one, nxB (show i < 1000000000000 by omega), markS _ h3 (show (mkS k0 of ln cp g i).1 < 1000000000000000 by omega), mkS]
  · simp only [laws_markInt64SS_sh.l0, laws_markInt64SS_sh.b0, Int.lt_irrefl, decide_false, Bool.false_eq_true, if_false, laws_markInt64SS_sh.a0_0]

end
end Go.Proofs.YtiifnnokpjbapaaRR.H
