/- A vector copied, and compared. -/
import Derived.Test.YtfiopadjbheclaaHV1
namespace Go.Proofs.Ytfiopadjbheclaa.H
set_option linter.unusedVariables false
set_option linter.unusedSimpArgs false
open Go Go.RowKit Go.Proofs.Ytfiopadjbheclaa.Hy
set_option linter.unusedVariables false
set_option linter.unusedSimpArgs false
set_option maxRecDepth 100000

variable {ρ : Type}

theorem toVector_eq (K : (Nat → Int) → Option ρ) (a : Nat → Int) : laws_toVector 3000000 K a = K (keepN 8 a) := by
  simp only [laws_toVector, laws_toVector.s]
  rw [show (fun _ => 0 : Nat → Int) = keepN 0 a from keepN_zero.symm]
  refine (loop_st (l := fun m i g => laws_toVector.l0 3000000 K a (fun o => laws_toVector.a0_0 3000000 K o) m (i : Int) g) (n := 8) (fun i => keepN i a) (fun m i hi => ?_) (fun m => ?_) 8 0 3000000 (by omega) (by omega))
  · simp only [laws_toVector.l0, laws_toVector.b0]
    have h1 : (i : Int) < 8 := by omega
    have h2 : (0 : Int) ≤ i ∧ (i : Int) < 8 := by omega
    simp only [h1, h2, decide_true, if_true, and_self, Int.toNat_natCast, Nat.mul_one, nx (show i < 100000 by omega), keepN_next]
  · rfl

theorem eqVector_of (K : Bool → Option ρ) {a b : Nat → Int} (h : ∀ z, z < 8 → a z = b z) : laws_eqVector 3000000 K a b = K true := by
  refine loop_go (l := fun m i => laws_eqVector.l0 3000000 K a b (laws_eqVector.a0_0 3000000 K) m (i : Int)) (n := 8) (fun m i hi => ?_) (fun m => ?_) 8 0 3000000 (by omega) (by omega)
  · simp only [laws_eqVector.l0, laws_eqVector.b0]
    have h1 : (i : Int) < 8 := by omega
    have h2 : (0 : Int) ≤ i ∧ (i : Int) < 8 := by omega
    simp [h1, h2, h i hi, nx (show i < 100000 by omega)]
  · rfl

theorem not8 : ¬ (((8 : Nat) : Int) < 8) := by omega

end Go.Proofs.Ytfiopadjbheclaa.H
