/- Comparisons, lists of vectors, rows: told alike by the reference and the program. -/
import Derived.Test.YthecjjnieojjoaaHV3
namespace Go.Proofs.Ythecjjnieojjoaa.H
set_option linter.unusedVariables false
set_option linter.unusedSimpArgs false
open Go Go.RowKit Go.Proofs.Ythecjjnieojjoaa.Hy
set_option linter.unusedVariables false
set_option linter.unusedSimpArgs false
set_option maxRecDepth 100000

variable {ρ : Type}

theorem eqVector_of (K : Bool → Option ρ) {a b : Nat → Int} (h : ∀ z, z < 8 → a z = b z) : laws_eqVector 6000 K a b = K true := by
  refine loop_go (l := fun m i => laws_eqVector.l0 6000 K a b (laws_eqVector.a0_0 6000 K) m (i : Int)) (n := 8) (fun m i hi => ?_) (fun m => ?_) 8 0 6000 (by omega) (by omega)
  · simp only [laws_eqVector.l0, laws_eqVector.b0]
    have h1 : (i : Int) < 8 := by omega
    have h2 : (0 : Int) ≤ i ∧ (i : Int) < 8 := by omega
    simp [h1, h2, h i hi, nx (show i < 100000 by omega)]
  · rfl

/-- are m vectors of a list ones for an algebra? -/
def listB (p n : Int) (g : Nat → Int) (m : Nat) : Bool := allN (fun i => vecB p n (fun z => g (i * 8 + z))) 0 m

theorem impl_unless_eq (K : Int → Option ρ) (b : Bool) (c : Int) : impl_unless 6000 K b c = K (if b = true then 0 else c) := by
  cases b <;> rfl

theorem listB_in {p q : Int} {g : Nat → Int} {m : Nat} (h : listB p q g m = true) (hb : ∀ i, i < m * 8 → 0 ≤ g i ∧ g i ≤ 255) {i : Nat} (hi : i < m) : inP p (fun z => g (i * 8 + z)) :=
  vecB_in (allN_true.1 h i (by omega) (by omega)) fun z hz => hb _ (by omega)

theorem sumN_out {f : Nat → Int} {n : Nat} : ∀ {m : Nat}, n ≤ m → (∀ i, n ≤ i → i < m → f i = 0) → sumN f m = sumN f n
  | 0, h, _ => by rw [show n = 0 by omega]
  | m + 1, h, hz => by
    by_cases he : n = m + 1
    · rw [he]
    · simp only [sumN]
      rw [hz m (by omega) (by omega), sumN_out (m := m) (by omega) fun i h1 h2 => hz i h1 (by omega)]; omega

theorem one_vec {v : Nat → Int} {i : Nat} (hv : ∀ i, 0 ≤ v i ∧ v i ≤ 255) : 0 ≤ (fun z => v (0 + z)) i ∧ (fun z => v (0 + z)) i ≤ 255 := hv _

theorem one_fst {p : Int} {v : Nat → Int} (h : inP p (fun z => (fun z => v (0 + z)) (0 * 8 + z))) : inP p v := by
  intro z hz
  have := h z hz
  simp only at this
  rw [show 0 + (0 * 8 + z) = z by omega] at this
  exact this

theorem keepN_byte' {m : Nat} {a : Nat → Int} (h : ∀ i, IntKind.u8.has (a i)) (i : Nat) : 0 ≤ keepN m a i ∧ keepN m a i ≤ 255 := by
  unfold keepN
  split
  · exact h i
  · omega

theorem not8 : ¬ ((8 : Nat) : Int) < 8 := by omega

end Go.Proofs.Ythecjjnieojjoaa.H
