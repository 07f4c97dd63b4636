/- Algebras: their shape, units and associativity, told alike by the reference and the program. -/
import Derived.Test.YthecjjnieojjoaaHV2
namespace Go.Proofs.Ythecjjnieojjoaa.H
set_option linter.unusedVariables false
set_option linter.unusedSimpArgs false
open Go Go.RowKit Go.Proofs.Ythecjjnieojjoaa.Hy
set_option linter.unusedVariables false
set_option linter.unusedSimpArgs false
set_option maxRecDepth 100000

variable {ρ : Type}

theorem toVector_eq (K : (Nat → Int) → Option ρ) (a : Nat → Int) : laws_toVector 6000 K a = K (keepN 8 a) := by
  simp only [laws_toVector, laws_toVector.s]
  rw [show (fun _ => 0 : Nat → Int) = keepN 0 a from keepN_zero.symm]
  refine (loop_st (l := fun m i g => laws_toVector.l0 6000 K a (fun o => laws_toVector.a0_0 6000 K o) m (i : Int) g) (n := 8) (fun i => keepN i a) (fun m i hi => ?_) (fun m => ?_) 8 0 6000 (by omega) (by omega))
  · simp only [laws_toVector.l0, laws_toVector.b0]
    have h1 : (i : Int) < 8 := by omega
    have h2 : (0 : Int) ≤ i ∧ (i : Int) < 8 := by omega
    simp only [h1, h2, decide_true, if_true, and_self, Int.toNat_natCast, Nat.mul_one, nx (show i < 100000 by omega), keepN_next]
  · rfl

theorem toLinear_eq (K : (Nat → Int) → Option ρ) (a : Nat → Int) : laws_toLinear 6000 K a = K (keepN 64 a) := by
  simp only [laws_toLinear, laws_toLinear.s]
  rw [show (fun _ => 0 : Nat → Int) = keepN (0 * 8) a from keepN_zero.symm]
  refine (loop_st (l := fun m i g => laws_toLinear.l0 6000 K a (fun o => laws_toLinear.a0_0 6000 K o) m (i : Int) g) (n := 8) (fun i => keepN (i * 8) a) (fun m i hi => ?_) (fun m => ?_) 8 0 6000 (by omega) (by omega))
  · simp only [laws_toLinear.l0, laws_toLinear.b0, toVector_eq]
    have h1 : (i : Int) < 8 := by omega
    have h2 : (0 : Int) ≤ i ∧ (i : Int) < 8 := by omega
    simp only [h1, h2, decide_true, if_true, and_self, Int.toNat_natCast, Nat.mul_one, nx (show i < 100000 by omega)]
    rw [keepN_updN (fun z hz => by simp [keepN, hz]), show (i + 1) * 8 = i * 8 + 8 by omega]
  · rfl

theorem toTable_eq (K : (Nat → Int) → Option ρ) (a : Nat → Int) : laws_toTable 6000 K a = K (keepN 512 a) := by
  simp only [laws_toTable, laws_toTable.s]
  rw [show (fun _ => 0 : Nat → Int) = keepN (0 * 64) a from keepN_zero.symm]
  refine (loop_st (l := fun m i g => laws_toTable.l0 6000 K a (fun o => laws_toTable.a0_0 6000 K o) m (i : Int) g) (n := 8) (fun i => keepN (i * 64) a) (fun m i hi => ?_) (fun m => ?_) 8 0 6000 (by omega) (by omega))
  · simp only [laws_toTable.l0, laws_toTable.b0, toLinear_eq]
    have h1 : (i : Int) < 8 := by omega
    have h2 : (0 : Int) ≤ i ∧ (i : Int) < 8 := by omega
    simp only [h1, h2, decide_true, if_true, and_self, Int.toNat_natCast, Nat.mul_one, nx (show i < 100000 by omega)]
    rw [keepN_updN (fun z hz => by simp [keepN, hz]), show (i + 1) * 64 = i * 64 + 64 by omega]
  · rfl

theorem keepN_byte {m : Nat} {a : Nat → Int} (h : ∀ i, IntKind.u8.has (a i)) : ∀ i, i < m → 0 ≤ keepN m a i ∧ keepN m a i ≤ 255 := by
  intro i hi
  rw [keepN_at hi]
  exact h i

/-! the shape -/

def shB (a0 a1 : Nat → Int) : Bool := sizB (a0 0) (a0 1) && (vecB (a0 0) (a0 1) (fun z => a1 (0 + z)) && tabB (a0 0) (a0 1) (fun z => a1 (8 + z)))

theorem vecB_at {p n : Int} {v : Nat → Int} (h : vecB p n v = true) {i : Nat} (hi : i < 8) : IntKind.i64.wrap (v i) < p ∧ (n ≤ (i : Int) → v i = 0) := by
  have := allN_true.1 h i (by omega) (by omega)
  simp only [Bool.and_eq_true, Bool.not_eq_true', decide_eq_false_iff_not, Bool.or_eq_true] at this
  refine ⟨by omega, fun hn => ?_⟩
  rcases this.2 with h1 | h1
  · exact absurd hn h1
  · simpa using h1

theorem vecB_in {p n : Int} {v : Nat → Int} (h : vecB p n v = true) (hb : ∀ i, i < 8 → 0 ≤ v i ∧ v i ≤ 255) : inP p v := by
  intro i hi
  have h1 := (vecB_at h hi).1
  have h2 := hb i hi
  rw [wrap64_id (by omega) (by omega)] at h1
  omega

theorem linB_at {p n : Int} {f : Nat → Int} (h : linB p n f = true) {i : Nat} (hi : i < 8) : vecB p n (fun z => f (i * 8 + z)) = true ∧ (n ≤ (i : Int) → ∀ j, j < 8 → f (i * 8 + j) = 0) := by
  have := allN_true.1 h i (by omega) (by omega)
  simp only [Bool.and_eq_true, Bool.not_eq_true', decide_eq_false_iff_not, Bool.or_eq_true, eqN, decide_eq_true_eq] at this
  refine ⟨this.1, fun hn => ?_⟩
  rcases this.2 with h1 | h1
  · exact absurd hn h1
  · exact h1

theorem tabB_at {p n : Int} {t : Nat → Int} (h : tabB p n t = true) {i : Nat} (hi : i < 8) : linB p n (fun z => t (i * 64 + z)) = true ∧ (n ≤ (i : Int) → ∀ j, j < 64 → t (i * 64 + j) = 0) := by
  have := allN_true.1 h i (by omega) (by omega)
  simp only [Bool.and_eq_true, Bool.not_eq_true', decide_eq_false_iff_not, Bool.or_eq_true, eqN, decide_eq_true_eq] at this
  refine ⟨this.1, fun hn => ?_⟩
  rcases this.2 with h1 | h1
  · exact absurd hn h1
  · exact h1

/-- a table's entries -/
theorem tabB_in {p : Int} {n : Nat} {t : Nat → Int} (h : tabB p n t = true) (hb : ∀ i, i < 512 → 0 ≤ t i ∧ t i ≤ 255) {i j : Nat} (hi : i < 8) (hj : j < 8) : inP p (fun z => t (i * 64 + (j * 8 + z))) := by
  have h1 := (linB_at (tabB_at h hi).1 hj).1
  exact vecB_in h1 fun z hz => hb _ (by omega)

theorem tabB_out {p : Int} {n : Nat} {t : Nat → Int} (h : tabB p n t = true) {i j k : Nat} (hi : i < 8) (hj : j < 8) (hk : k < 8) (ho : n ≤ i ∨ n ≤ j ∨ n ≤ k) : t (i * 64 + (j * 8 + k)) = 0 := by
  rcases ho with h1 | h1 | h1
  · exact (tabB_at h hi).2 (by omega) (j * 8 + k) (by omega)
  · exact (linB_at (tabB_at h hi).1 hj).2 (by omega) k hk
  · exact (vecB_at (linB_at (tabB_at h hi).1 hj).1 hk).2 (by omega)

theorem sizB_at {p m : Int} (h : sizB p m = true) : 2 ≤ p ∧ p ≤ 31 ∧ ∃ n : Nat, m = n ∧ 1 ≤ n ∧ n ≤ 8 := by
  simp only [sizB, Bool.and_eq_true, decide_eq_true_eq] at h
  have h1 := isP_range h.1
  exact ⟨h1.1, h1.2, m.toNat, by omega, by omega, by omega⟩

/-- what the shape says -/
structure Shp (a0 a1 : Nat → Int) (n : Nat) : Prop where
  sh : shB a0 a1 = true
  siz : sizB (a0 0) (a0 1) = true
  size : a0 1 = n
  pos : 1 ≤ n
  le : n ≤ 8
  p0 : 0 < a0 0
  p2 : 2 ≤ a0 0
  p31 : a0 0 ≤ 31
  p255 : a0 0 ≤ 255
  unit : inP (a0 0) (fun z => a1 (0 + z))
  unit0 : ∀ i, i < 8 → n ≤ i → a1 (0 + i) = 0
  mul : ∀ i j, i < 8 → j < 8 → inP (a0 0) (fun z => a1 (8 + i * 64 + (j * 8 + z)))
  mul0 : ∀ i j k, i < 8 → j < 8 → k < 8 → (n ≤ i ∨ n ≤ j ∨ n ≤ k) → a1 (8 + (i * 64 + (j * 8 + k))) = 0

theorem shp_of {a0 a1 : Nat → Int} (h : shB a0 a1 = true) (hb : ∀ i, i < 520 → 0 ≤ a1 i ∧ a1 i ≤ 255) : ∃ n, Shp a0 a1 n := by
  have h0 := h
  simp only [shB, Bool.and_eq_true] at h
  obtain ⟨hs, hv, ht⟩ := h
  obtain ⟨p2, p31, n, hn, n1, n8⟩ := sizB_at hs
  rw [hn] at ht
  refine ⟨n, h0, hs, hn, n1, n8, by omega, p2, p31, by omega, vecB_in hv fun i hi => hb _ (by omega), fun i hi hni => (vecB_at hv hi).2 (by omega), fun i j hi hj z hz => ?_, fun i j k hi hj hk ho => tabB_out ht hi hj hk ho⟩
  have := tabB_in ht (fun i hi => hb _ (by omega)) hi hj z hz
  simp only at this ⊢
  rw [show 8 + i * 64 + (j * 8 + z) = 8 + (i * 64 + (j * 8 + z)) by omega]
  exact this

section
variable {a0 a1 : Nat → Int} {n : Nat}

theorem Shp.mul' (h : Shp a0 a1 n) {i j : Nat} (hi : i < 8) (hj : j < 8) : inP (a0 0) (fun z => a1 (8 + i * 64 + j * 8 + z)) := by
  intro z hz
  have := h.mul i j hi hj z hz
  simp only at this ⊢
  rw [show 8 + i * 64 + j * 8 + z = 8 + i * 64 + (j * 8 + z) by omega]
  exact this

/-- the product in an algebra -/
def tm (a0 a1 : Nat → Int) (n : Nat) (v w : Nat → Int) : Nat → Int := timesV (a0 0) n (fun z => a1 (8 + z)) v w

abbrev eb (i : Nat) : Nat → Int := upd (fun _ => 0) i 1

/-! units -/

end
end Go.Proofs.Ythecjjnieojjoaa.H
