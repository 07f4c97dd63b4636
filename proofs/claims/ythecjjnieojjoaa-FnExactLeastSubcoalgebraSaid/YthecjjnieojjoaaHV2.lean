/- Linear maps applied, products of vectors: the reference and the program tell the same. -/
import Derived.Test.YthecjjnieojjoaaHV1
namespace Go.Proofs.Ythecjjnieojjoaa.H
set_option linter.unusedVariables false
set_option linter.unusedSimpArgs false
open Go Go.RowKit Go.Proofs.Ythecjjnieojjoaa.Hy
set_option linter.unusedVariables false
set_option linter.unusedSimpArgs false
set_option maxRecDepth 100000

variable {ρ : Type}

theorem inP_acc {p : Int} (hp : 0 < p) {n : Nat} {c : Nat → Int} {W : Nat → Nat → Int} : inP p (accV p n c W) := fun k _ => accV_range hp k

theorem inP_byte {p : Int} (hp' : p ≤ 255) {v : Nat → Int} (h : inP p v) : ∀ i, i < 8 → 0 ≤ v i ∧ v i ≤ 255 := fun i hi => by
  have := h i hi; omega

/-- the product of two vectors -/
def timesV (p : Int) (n : Nat) (m v w : Nat → Int) : Nat → Int := accV p n v (fun i k => sumN (fun j => w j * m (i * 64 + (j * 8 + k))) n)

theorem impl_basis_eq (K : (Nat → Int) → Option ρ) {i : Nat} (h : i < 8) : impl_basis 6000 K (i : Int) = K (upd (fun _ => 0) i 1) := by
  have h2 : (0 : Int) ≤ i ∧ (i : Int) < 8 := by omega
  simp [impl_basis, h2]

theorem spec_basis_eq (K : (Nat → Int) → Option ρ) {i : Nat} (h : i < 8) : spec_l01Basis 6000 K (i : Int) = K (upd (fun _ => 0) i 1) := by
  have h2 : (0 : Int) ≤ i ∧ (i : Int) < 8 := by omega
  simp [spec_l01Basis, h2]

end Go.Proofs.Ythecjjnieojjoaa.H
