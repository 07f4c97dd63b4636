/- Lists of vectors: copies, alike, marked, held. -/
import Derived.Test.YthecjjnieojjoaaHRB
import Derived.Test.YthecjjnieojjoaaHV9d
namespace Go.Proofs.Ythecjjnieojjoaa.H
set_option linter.unusedVariables false
set_option linter.unusedSimpArgs false
open Go Go.RowKit Go.Proofs.Ythecjjnieojjoaa.Hy
set_option linter.unusedVariables false
set_option linter.unusedSimpArgs false
set_option maxRecDepth 100000

section
variable {ρ : Type}

theorem eqVsu (K : Bool → Option ρ) {m c d : Nat} {g g' : Nat → Int} (hm : m < 100000000) (hF : m < 6000) (h : ∀ z, z < m * 8 → g z = g' z) : laws_eqVectorS_susu 6000 K m m c g d g' = K true := by
  unfold laws_eqVectorS_susu laws_eqVectorS_susu.s
  simp only [bne_self_eq_false, Bool.false_eq_true, if_false]
  refine go_at (n := m) (fun q i hi => ?_) (fun q => ?_) hF
  · simp only [laws_eqVectorS_susu.l0, laws_eqVectorS_susu.b0]
    have h1 : (i : Int) < (m : Int) := by omega
    have h2 : (0 : Int) ≤ i ∧ (i : Int) < (m : Int) := by omega
    simp only [h1, h2, decide_true, if_true, and_self, Int.toNat_natCast]
    rw [eqVector_of _ (fun z hz => h _ (by omega))]
    simp only [Bool.not_true, Bool.false_eq_true, if_false, nxB (show i < 1000000000000 by omega)]
  · simp only [laws_eqVectorS_susu.l0, laws_eqVectorS_susu.b0, Int.lt_irrefl, decide_false, Bool.false_eq_true, if_false, laws_eqVectorS_susu.a0_0]

/-- the first n cells are marked -/
def mkB (g : Nat → Int) (n : Nat) : Nat → Int := fun z => if z < n then IntKind.u8.wrap (101 + (z : Int)) else g z

theorem mkB_zero {g : Nat → Int} : mkB g 0 = g := by funext z; simp [mkB]
theorem mkB_next {g : Nat → Int} {n : Nat} : upd (mkB g n) n (IntKind.u8.wrap (101 + (n : Int))) = mkB g (n + 1) := by
  funext z
  unfold upd mkB
  by_cases h : z = n
  · rw [if_pos h, if_pos (by omega), h]
  · rw [if_neg h]
    by_cases h2 : z < n
    · rw [if_pos h2, if_pos (by omega)]
    · rw [if_neg h2, if_neg (by omega)]

theorem nkB {a i : Nat} (h : a + i < 1000000000000) : IntKind.i64.wrap (101 + ((a + i : Nat) : Int) + 1) = 101 + ((a + (i + 1) : Nat) : Int) := by
  rw [wrap64_id (by omega) (by omega)]; omega

theorem markVsu (K : Int → (Nat → Int) → Option ρ) {m c : Nat} {g : Nat → Int} (hm : m ≤ 1000) : laws_markVectorS_su 6000 K m 101 c g = K (101 + ((m * 8 : Nat) : Int)) (mkB g (m * 8)) := by
  unfold laws_markVectorS_su laws_markVectorS_su.s
  refine loop_tat (n := m) (fun i => 101 + ((i * 8 : Nat) : Int)) (fun i => mkB g (i * 8)) (by simp) (by simp only [Nat.zero_mul, mkB_zero]) (fun q i hi => ?_) (fun q => ?_) (by omega)
  · simp only [laws_markVectorS_su.l0, laws_markVectorS_su.b0]
    have h1 : (i : Int) < (m : Int) := by omega
    have h2 : (0 : Int) ≤ i ∧ (i : Int) < (m : Int) := by omega
    simp only [h1, decide_true, if_true]
    refine loop_tat (n := 8) (fun j => 101 + ((i * 8 + j : Nat) : Int)) (fun j => mkB g (i * 8 + j)) (by simp) (by simp) (fun q' j hj => ?_) (fun q' => ?_) (by omega)
    · simp only [laws_markVectorS_su.l1, laws_markVectorS_su.b1]
      have g1 : (j : Int) < 8 := by omega
      have g2 : (0 : Int) ≤ j ∧ (j : Int) < 8 := by omega
      simp only [g1, g2, h2, decide_true, if_true, and_self, Int.toNat_natCast, Nat.mul_one, Nat.zero_add, nx (show j < 100000 by omega), mkB_next, nkB (show i * 8 + j < 1000000000000 by omega), Nat.add_assoc]
    · simp only [laws_markVectorS_su.l1, laws_markVectorS_su.b1, not8, decide_false, Bool.false_eq_true, if_false, laws_markVectorS_su.a1_0, nxB (show i < 1000000000000 by omega)]
      rw [show i * 8 + 8 = (i + 1) * 8 by omega]
  · simp only [laws_markVectorS_su.l0, laws_markVectorS_su.b0, Int.lt_irrefl, decide_false, Bool.false_eq_true, if_false, laws_markVectorS_su.a0_0]

theorem heldVsu (K : Int → Option ρ) {m c : Nat} {g : Nat → Int} (hm : m ≤ 1000) (h : ∀ z, z < m * 8 → g z = IntKind.u8.wrap (101 + (z : Int))) : laws_heldVectorS_su 6000 K m 101 c g = K (101 + ((m * 8 : Nat) : Int)) := by
  unfold laws_heldVectorS_su laws_heldVectorS_su.s
  refine loop_ta (n := m) (fun i => 101 + ((i * 8 : Nat) : Int)) (by simp) (fun q i hi => ?_) (fun q => ?_) (by omega)
  · simp only [laws_heldVectorS_su.l0, laws_heldVectorS_su.b0]
    have h1 : (i : Int) < (m : Int) := by omega
    have h2 : (0 : Int) ≤ i ∧ (i : Int) < (m : Int) := by omega
    simp only [h1, decide_true, if_true]
    refine loop_ta (n := 8) (fun j => 101 + ((i * 8 + j : Nat) : Int)) (by simp) (fun q' j hj => ?_) (fun q' => ?_) (by omega)
    · simp only [laws_heldVectorS_su.l1, laws_heldVectorS_su.b1]
      have g1 : (j : Int) < 8 := by omega
      have g2 : (0 : Int) ≤ j ∧ (j : Int) < 8 := by omega
      simp only [g1, g2, h2, decide_true, if_true, and_self, Int.toNat_natCast, Nat.mul_one, Nat.zero_add, nx (show j < 100000 by omega), h _ (show i * 8 + j < m * 8 by omega), bne_self_eq_false, Bool.false_eq_true, if_false, nkB (show i * 8 + j < 1000000000000 by omega), Nat.add_assoc]
    · simp only [laws_heldVectorS_su.l1, laws_heldVectorS_su.b1, not8, decide_false, Bool.false_eq_true, if_false, laws_heldVectorS_su.a1_0, nxB (show i < 1000000000000 by omega)]
      rw [show i * 8 + 8 = (i + 1) * 8 by omega]
  · simp only [laws_heldVectorS_su.l0, laws_heldVectorS_su.b0, Int.lt_irrefl, decide_false, Bool.false_eq_true, if_false, laws_heldVectorS_su.a0_0]

theorem mkB_held {r g : Nat → Int} {m : Nat} : ∀ z, z < m * 8 → (fun z => updN r 0 (m * 8) (mkB g (m * 8)) (0 + z)) z = IntKind.u8.wrap (101 + (z : Int)) := by
  intro z hz
  simp only [updN, mkB, Nat.zero_add]
  rw [if_pos (by omega), Nat.sub_zero, if_pos hz]

end
end Go.Proofs.Ythecjjnieojjoaa.H
