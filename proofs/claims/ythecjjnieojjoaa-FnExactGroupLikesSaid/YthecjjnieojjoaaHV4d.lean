/- Comparisons, lists of vectors, rows: told alike by the reference and the program. -/
import Derived.Test.YthecjjnieojjoaaHV3
namespace Go.Proofs.Ythecjjnieojjoaa.H
set_option linter.unusedVariables false
set_option linter.unusedSimpArgs false
open Go Go.RowKit Go.Proofs.Ythecjjnieojjoaa.Hy
set_option linter.unusedVariables false
set_option linter.unusedSimpArgs false
set_option maxRecDepth 100000

variable {ρ : Type}

theorem eqVector_of (K : Bool → Option ρ) {a b : Nat → Int} (h : ∀ z, z < 8 → a z = b z) : laws_eqVector 6000 K a b = K true := by
  refine loop_go (l := fun m i => laws_eqVector.l0 6000 K a b (laws_eqVector.a0_0 6000 K) m (i : Int)) (n := 8) (fun m i hi => ?_) (fun m => ?_) 8 0 6000 (by omega) (by omega)
  · simp only [laws_eqVector.l0, laws_eqVector.b0]
    have h1 : (i : Int) < 8 := by omega
    have h2 : (0 : Int) ≤ i ∧ (i : Int) < 8 := by omega
    simp [h1, h2, h i hi, nx (show i < 100000 by omega)]
  · rfl

theorem impl_unless_eq (K : Int → Option ρ) (b : Bool) (c : Int) : impl_unless 6000 K b c = K (if b = true then 0 else c) := by
  cases b <;> rfl

/-- n vectors, one behind the other -/
def rowsV (W : Nat → Nat → Int) (n : Nat) : Nat → Int := fun x => if x < n * 8 then W (x / 8) (x % 8) else 0

theorem rowsV_zero {W : Nat → Nat → Int} : rowsV W 0 = fun _ => 0 := by funext x; simp [rowsV]

theorem rowsV_next {W : Nat → Nat → Int} {n : Nat} : updN (rowsV W n) (n * 8) 8 (W n) = rowsV W (n + 1) := by
  funext x
  unfold updN rowsV
  by_cases h : n * 8 ≤ x ∧ x < n * 8 + 8
  · rw [if_pos h, if_pos (by omega), show x / 8 = n by omega, show x % 8 = x - n * 8 by omega]
  · rw [if_neg h]
    by_cases h2 : x < n * 8
    · rw [if_pos h2, if_pos (by omega)]
    · rw [if_neg h2, if_neg (by omega)]

theorem sumN_out {f : Nat → Int} {n : Nat} : ∀ {m : Nat}, n ≤ m → (∀ i, n ≤ i → i < m → f i = 0) → sumN f m = sumN f n
  | 0, h, _ => by rw [show n = 0 by omega]
  | m + 1, h, hz => by
    by_cases he : n = m + 1
    · rw [he]
    · simp only [sumN]
      rw [hz m (by omega) (by omega), sumN_out (m := m) (by omega) fun i h1 h2 => hz i h1 (by omega)]; omega

theorem not8 : ¬ ((8 : Nat) : Int) < 8 := by omega

end Go.Proofs.Ythecjjnieojjoaa.H
