/- The axioms of Hopf algebras, told alike by the reference and the program. -/
import Derived.Test.YtacdnmdfoimjcaaHV11e
namespace Go.Proofs.Ytacdnmdfoimjcaa.H
set_option linter.unusedVariables false
set_option linter.unusedSimpArgs false
open Go Go.RowKit Go.Proofs.Ytacdnmdfoimjcaa.Hx
set_option linter.unusedVariables false
set_option linter.unusedSimpArgs false
set_option maxRecDepth 100000

variable {ρ : Type}

section
variable {h0 h1 : Nat → Int} {n : Nat}

theorem HS.crow (h : HS h0 h1 n) {i : Nat} (hi : i < 8) (j : Nat) (hj : j < 8) : inP (h0 0) (fun z => (fun z => h1 (528 + i * 64 + z)) (j * 8 + z)) := by
  intro z hz
  have := h.co.mul i j hi hj z hz
  simp only at this
  show 0 ≤ h1 (528 + i * 64 + (j * 8 + z)) ∧ h1 (528 + i * 64 + (j * 8 + z)) < h0 0
  rw [show 528 + i * 64 + (j * 8 + z) = 520 + (8 + i * 64 + (j * 8 + z)) by omega]
  exact this

theorem HS.unit (h : HS h0 h1 n) : inP (h0 0) (fun z => h1 (0 + z)) := h.al.unit

/-! axiom 3 -/

def ax3 (h0 h1 : Nat → Int) (n : Nat) : Bool := allN (fun i => allN (fun j => eqN 64 (coM h0 (fun z => h1 (520 + z)) (fun z => h1 (8 + i * 64 + j * 8 + z)) n n 0) (pairV h0 h1 n (fun z => h1 (528 + i * 64 + z)) (fun z => h1 (528 + j * 64 + z)))) 0 n) 0 n

theorem impl_ax3 (h : HS h0 h1 n) (K : Bool → Option ρ) : impl_Hopf_axiom3 5000 K h0 h1 = K (ax3 h0 h1 n) := by
  have hn := h.al.le
  rw [impl_Hopf_axiom3, impl_Hopf_axiom3.s]
  refine (all_at (n := n) (no := K false) (out := K true) (fun i => allN (fun j => eqN 64 (coM h0 (fun z => h1 (520 + z)) (fun z => h1 (8 + i * 64 + j * 8 + z)) n n 0) (pairV h0 h1 n (fun z => h1 (528 + i * 64 + z)) (fun z => h1 (528 + j * 64 + z)))) 0 n) (fun m i hi => ?_) (fun m => ?_) (by omega)).trans ?_
  · simp only [impl_Hopf_axiom3.l0, impl_Hopf_axiom3.b0]
    have e1 : (i : Int) < n := by omega
    simp only [h.al.size, e1, decide_true, if_true]
    refine all_at (n := n) (fun j => eqN 64 (coM h0 (fun z => h1 (520 + z)) (fun z => h1 (8 + i * 64 + j * 8 + z)) n n 0) (pairV h0 h1 n (fun z => h1 (528 + i * 64 + z)) (fun z => h1 (528 + j * 64 + z)))) (fun m' j hj => ?_) (fun m' => ?_) (by omega)
    · simp only [impl_Hopf_axiom3.l1, impl_Hopf_axiom3.b1]
      have g1 : (j : Int) < n := by omega
      have hi2 : (0 : Int) ≤ i ∧ (i : Int) < 8 := by omega
      have hj2 : (0 : Int) ≤ j ∧ (j : Int) < 8 := by omega
      simp only [h.al.size, g1, hi2, hj2, decide_true, if_true, and_self, Int.toNat_natCast]
      rw [him_coproduct h _ (h.al.mul' (by omega) (by omega)), impl_tensor h _ (fun l m hl hm => h.crow (by omega) l hl m hm) (fun l m hl hm => h.crow (by omega) l hl m hm), tens_same h]
      cases eqN 64 (coM h0 (fun z => h1 (520 + z)) (fun z => h1 (8 + i * 64 + j * 8 + z)) n n 0) (pairV h0 h1 n (fun z => h1 (528 + i * 64 + z)) (fun z => h1 (528 + j * 64 + z))) <;> simp [nx (show j < 100000 by omega)]
    · simp only [impl_Hopf_axiom3.l1, impl_Hopf_axiom3.b1, h.al.size, Int.lt_irrefl, decide_false, Bool.false_eq_true, if_false, impl_Hopf_axiom3.a1_0, nx (show i < 100000 by omega)]
  · simp only [impl_Hopf_axiom3.l0, impl_Hopf_axiom3.b0, h.al.size, Int.lt_irrefl, decide_false, Bool.false_eq_true, if_false, impl_Hopf_axiom3.a0_0]
  · exact K_if K _

/-! axiom 4 -/

def ax4 (h0 h1 : Nat → Int) (n : Nat) : Bool := allN (fun j => eqN 8 (fun z => coM h0 (fun z => h1 (520 + z)) (fun z => h1 (0 + z)) n n 0 (j * 8 + z)) (addV (h0 0) (fun _ => 0) (fun z => h1 (0 + z)) (h1 (0 + j)))) 0 n

theorem ax4_same (h : HS h0 h1 n) : eqN 64 (coM h0 (fun z => h1 (520 + z)) (fun z => h1 (0 + z)) n n 0) (rowsV (fun j => addV (h0 0) (fun _ => 0) (fun z => h1 (0 + z)) (h1 (0 + j))) 8) = ax4 h0 h1 n := by
  have hn := h.al.le
  rw [Bool.eq_iff_iff]
  simp only [ax4, allN_true, eqN, decide_eq_true_eq]
  constructor
  · intro H j _ hj z hz
    have := H (j * 8 + z) (by omega)
    rw [this]
    unfold rowsV
    rw [if_pos (by omega), show (j * 8 + z) / 8 = j by omega, show (j * 8 + z) % 8 = z by omega]
  · intro H x hx
    unfold rowsV
    rw [if_pos (by omega)]
    by_cases hxn : x / 8 < n
    · have := H (x / 8) (by omega) (by omega) (x % 8) (by omega)
      rw [show x / 8 * 8 + x % 8 = x by omega] at this
      exact this
    · have u := h.al.unit0 (x / 8) (by omega) (by omega)
      simp only [u]
      unfold coM addV
      rw [if_neg (by omega), if_pos (by omega)]
      simp

theorem impl_ax4 (h : HS h0 h1 n) (K : Bool → Option ρ) : impl_Hopf_axiom4 5000 K h0 h1 = K (ax4 h0 h1 n) := by
  rw [impl_Hopf_axiom4, him_coproduct h _ h.unit, impl_Hopf_field, impl_pair _ (by rw [fld0]; exact h.al.p0) (by rw [fld0]; exact h.al.p255) (fun z hz => h.al.un hz) (fun z hz => h.al.un hz), fld0, ax4_same h]

/-! axiom 5 -/

def ax5a (h0 h1 : Nat → Int) (n : Nat) : Bool := allN (fun i => allN (fun j => sumN (fun a => h1 (8 + i * 64 + j * 8 + a) * h1 (520 + a)) n % h0 0 == (h1 (520 + i) * h1 (520 + j)) % h0 0) 0 n) 0 n
def ax5 (h0 h1 : Nat → Int) (n : Nat) : Bool := ax5a h0 h1 n && (sumN (fun a => h1 (0 + a) * h1 (520 + a)) n % h0 0 == 1)

theorem prodE (h : HS h0 h1 n) {i j : Nat} (hi : i < 8) (hj : j < 8) : Int.tmod (IntKind.i64.wrap (IntKind.i64.wrap (h1 (520 + i)) * IntKind.i64.wrap (h1 (520 + j)))) (h0 0) = (h1 (520 + i) * h1 (520 + j)) % h0 0 := by
  have a := h.cou hi
  have b := h.cou hj
  have c := Int.mul_nonneg a.1 b.1
  have d : h1 (520 + i) * h1 (520 + j) ≤ 255 * h1 (520 + j) := Int.mul_le_mul_of_nonneg_right a.2 b.1
  rw [wrap64_id (x := h1 (520 + i)) (by omega) (by omega), wrap64_id (x := h1 (520 + j)) (by omega) (by omega), wrap64_id (by omega) (by omega), Int.tmod_eq_emod_of_nonneg c]

theorem impl_ax5 (h : HS h0 h1 n) (K : Bool → Option ρ) : impl_Hopf_axiom5 5000 K h0 h1 = K (ax5 h0 h1 n) := by
  have hn := h.al.le
  have z0 : ¬ h0 0 = 0 := by have := h.al.p0; omega
  rw [impl_Hopf_axiom5, impl_Hopf_axiom5.s, impl_Hopf_field]
  have f0 := fld0 (a := h0)
  have f1 := (fld1 (a := h0)).trans h.al.size
  generalize upd (upd (fun _ => 0) 0 (h0 0)) 1 (h0 1) = r at f0 f1
  refine (all_at (n := n) (no := K false) (out := K (sumN (fun a => h1 (0 + a) * h1 (520 + a)) n % h0 0 == 1)) (fun i => allN (fun j => sumN (fun a => h1 (8 + i * 64 + j * 8 + a) * h1 (520 + a)) n % h0 0 == (h1 (520 + i) * h1 (520 + j)) % h0 0) 0 n) (fun m i hi => ?_) (fun m => ?_) (by omega)).trans ?_
  · simp only [impl_Hopf_axiom5.l0, impl_Hopf_axiom5.b0]
    have e1 : (i : Int) < n := by omega
    simp only [f1, e1, decide_true, if_true]
    refine all_at (n := n) (fun j => sumN (fun a => h1 (8 + i * 64 + j * 8 + a) * h1 (520 + a)) n % h0 0 == (h1 (520 + i) * h1 (520 + j)) % h0 0) (fun m' j hj => ?_) (fun m' => ?_) (by omega)
    · simp only [impl_Hopf_axiom5.l1, impl_Hopf_axiom5.b1]
      have g1 : (j : Int) < n := by omega
      have hi2 : (0 : Int) ≤ i ∧ (i : Int) < 8 := by omega
      have hj2 : (0 : Int) ≤ j ∧ (j : Int) < 8 := by omega
      simp only [f1, f0, z0, g1, hi2, hj2, decide_true, if_true, if_false, and_self, Int.toNat_natCast, Nat.mul_one]
      rw [him_counit h _ (fun z hz => h.al.ent (by omega) (by omega) hz), prodE h (by omega) (by omega)]
      by_cases he : sumN (fun a => h1 (8 + i * 64 + j * 8 + a) * h1 (520 + a)) n % h0 0 = h1 (520 + i) * h1 (520 + j) % h0 0
      · simp [he, nx (show j < 100000 by omega)]
      · simp [he]
    · simp only [impl_Hopf_axiom5.l1, impl_Hopf_axiom5.b1, f1, Int.lt_irrefl, decide_false, Bool.false_eq_true, if_false, impl_Hopf_axiom5.a1_0, nx (show i < 100000 by omega)]
  · simp only [impl_Hopf_axiom5.l0, impl_Hopf_axiom5.b0, f1, Int.lt_irrefl, decide_false, Bool.false_eq_true, if_false, impl_Hopf_axiom5.a0_0]
    rw [him_counit h _ (fun z hz => h.al.un hz)]
  · show _ = K (ax5a h0 h1 n && _)
    unfold ax5a
    split
    · rename_i hu; rw [hu]; rfl
    · rename_i hu; rw [Bool.eq_false_iff.2 hu]; rfl

/-! the reference's axioms 1 to 5 -/

def bia (h0 h1 : Nat → Int) (n : Nat) : Int :=
  if algB (keepN 2 h0) (keepN 520 h1) = true then (if coB (keepN 2 h0) (keepN 520 (fun z => h1 (520 + z))) = true then (if ax3 h0 h1 n = true then (if ax4 h0 h1 n = true then (if ax5 h0 h1 n = true then 0 else 5) else 4) else 3) else 2) else 1

theorem hb_al (hb : ∀ i, i < 1104 → 0 ≤ h1 i ∧ h1 i ≤ 255) : ∀ i, i < 520 → 0 ≤ keepN 520 h1 i ∧ keepN 520 h1 i ≤ 255 := fun i hi => by rw [keepN_at hi]; exact hb i (by omega)
theorem hb_co (hb : ∀ i, i < 1104 → 0 ≤ h1 i ∧ h1 i ≤ 255) : ∀ i, i < 520 → 0 ≤ keepN 520 (fun z => h1 (520 + z)) i ∧ keepN 520 (fun z => h1 (520 + z)) i ≤ 255 := fun i hi => by rw [keepN_at hi]; exact hb (520 + i) (by omega)

theorem spec_bia5 (h : HS h0 h1 n) (K : Int → Option ρ) : spec_l03Bialgebra.l3 5000 K h0 h1 (spec_l03Bialgebra.a3_0 5000 K h0 h1) 5000 0 = K (if ax5 h0 h1 n = true then 0 else 5) := by
  have hn := h.al.le
  have z0 : ¬ h0 0 = 0 := by have := h.al.p0; omega
  refine (all_at (n := n) (no := K 5) (out := K (if (sumN (fun a => h1 (0 + a) * h1 (520 + a)) n % h0 0 == 1) = true then 0 else 5)) (fun i => allN (fun j => sumN (fun a => h1 (8 + i * 64 + j * 8 + a) * h1 (520 + a)) n % h0 0 == (h1 (520 + i) * h1 (520 + j)) % h0 0) 0 n) (fun m i hi => ?_) (fun m => ?_) (by omega)).trans ?_
  · simp only [spec_l03Bialgebra.l3, spec_l03Bialgebra.b3]
    have e1 : (i : Int) < n := by omega
    simp only [h.al.size, e1, decide_true, if_true]
    refine all_at (n := n) (fun j => sumN (fun a => h1 (8 + i * 64 + j * 8 + a) * h1 (520 + a)) n % h0 0 == (h1 (520 + i) * h1 (520 + j)) % h0 0) (fun m' j hj => ?_) (fun m' => ?_) (by omega)
    · simp only [spec_l03Bialgebra.l4, spec_l03Bialgebra.b4]
      have g1 : (j : Int) < n := by omega
      have hi2 : (0 : Int) ≤ i ∧ (i : Int) < 8 := by omega
      have hj2 : (0 : Int) ≤ j ∧ (j : Int) < 8 := by omega
      simp only [h.al.size, z0, g1, hi2, hj2, decide_true, if_true, if_false, and_self, Int.toNat_natCast, Nat.mul_one]
      rw [hsp_counit h _ (fun z hz => h.al.ent (by omega) (by omega) hz), prodE h (by omega) (by omega)]
      by_cases he : sumN (fun a => h1 (8 + i * 64 + j * 8 + a) * h1 (520 + a)) n % h0 0 = h1 (520 + i) * h1 (520 + j) % h0 0
      · simp [he, nx (show j < 100000 by omega)]
      · simp [he]
    · simp only [spec_l03Bialgebra.l4, spec_l03Bialgebra.b4, h.al.size, Int.lt_irrefl, decide_false, Bool.false_eq_true, if_false, spec_l03Bialgebra.a4_0, nx (show i < 100000 by omega)]
  · simp only [spec_l03Bialgebra.l3, spec_l03Bialgebra.b3, h.al.size, Int.lt_irrefl, decide_false, Bool.false_eq_true, if_false, spec_l03Bialgebra.a3_0]
    rw [hsp_counit h _ (fun z hz => h.al.un hz)]
    by_cases he : sumN (fun a => h1 (0 + a) * h1 (520 + a)) n % h0 0 = 1
    · simp only [he, bne_self_eq_false, Bool.false_eq_true, if_false, beq_self_eq_true, if_true]
    · have e1 : (sumN (fun a => h1 (0 + a) * h1 (520 + a)) n % h0 0 != 1) = true := by simpa using he
      have e2 : (sumN (fun a => h1 (0 + a) * h1 (520 + a)) n % h0 0 == 1) = false := by simpa using he
      simp only [e1, e2, if_true, Bool.false_eq_true, if_false]
  · unfold ax5 ax5a
    split
    · rename_i hu; rw [hu, Bool.true_and]
    · rename_i hu; rw [Bool.eq_false_iff.2 hu]; rfl

theorem spec_bia (h : HS h0 h1 n) (hb : ∀ i, i < 1104 → 0 ≤ h1 i ∧ h1 i ≤ 255) (K : Int → Option ρ) : spec_l03Bialgebra 5000 K h0 h1 = K (bia h0 h1 n) := by
  have hn := h.al.le
  rw [spec_l03Bialgebra, spec_l03Bialgebra.s, spec_alg, spec_is (hb_al hb)]
  unfold bia
  by_cases ha : algB (keepN 2 h0) (keepN 520 h1) = true
  · simp only [ha, Bool.not_true, Bool.false_eq_true, if_false, if_true, spec_co, spec_isCo (hb_co hb)]
    by_cases hc : coB (keepN 2 h0) (keepN 520 (fun z => h1 (520 + z))) = true
    · simp only [hc, Bool.not_true, Bool.false_eq_true, if_false, if_true]
      refine (all_at (n := n) (no := K 3) (out := K (if ax4 h0 h1 n = true then (if ax5 h0 h1 n = true then 0 else 5) else 4)) (fun i => allN (fun j => eqN 64 (coM h0 (fun z => h1 (520 + z)) (fun z => h1 (8 + i * 64 + j * 8 + z)) n n 0) (pairV h0 h1 n (fun z => h1 (528 + i * 64 + z)) (fun z => h1 (528 + j * 64 + z)))) 0 n) (fun m i hi => ?_) (fun m => ?_) (by omega)).trans ?_
      · simp only [spec_l03Bialgebra.l0, spec_l03Bialgebra.b0]
        have e1 : (i : Int) < n := by omega
        simp only [h.al.size, e1, decide_true, if_true]
        refine all_at (n := n) (fun j => eqN 64 (coM h0 (fun z => h1 (520 + z)) (fun z => h1 (8 + i * 64 + j * 8 + z)) n n 0) (pairV h0 h1 n (fun z => h1 (528 + i * 64 + z)) (fun z => h1 (528 + j * 64 + z)))) (fun m' j hj => ?_) (fun m' => ?_) (by omega)
        · simp only [spec_l03Bialgebra.l1, spec_l03Bialgebra.b1]
          have g1 : (j : Int) < n := by omega
          have hi2 : (0 : Int) ≤ i ∧ (i : Int) < 8 := by omega
          have hj2 : (0 : Int) ≤ j ∧ (j : Int) < 8 := by omega
          simp only [h.al.size, g1, hi2, hj2, decide_true, if_true, and_self, Int.toNat_natCast]
          rw [hsp_coproduct h _ (h.al.mul' (by omega) (by omega)), spec_pairs h _ (h.crow (by omega)) (h.crow (by omega))]
          cases eqN 64 (coM h0 (fun z => h1 (520 + z)) (fun z => h1 (8 + i * 64 + j * 8 + z)) n n 0) (pairV h0 h1 n (fun z => h1 (528 + i * 64 + z)) (fun z => h1 (528 + j * 64 + z))) <;> simp [nx (show j < 100000 by omega)]
        · simp only [spec_l03Bialgebra.l1, spec_l03Bialgebra.b1, h.al.size, Int.lt_irrefl, decide_false, Bool.false_eq_true, if_false, spec_l03Bialgebra.a1_0, nx (show i < 100000 by omega)]
      · simp only [spec_l03Bialgebra.l0, spec_l03Bialgebra.b0, h.al.size, Int.lt_irrefl, decide_false, Bool.false_eq_true, if_false, spec_l03Bialgebra.a0_0]
        rw [hsp_coproduct h _ h.unit]
        refine (all_at (n := n) (no := K 4) (out := K (if ax5 h0 h1 n = true then 0 else 5)) (fun j => eqN 8 (fun z => coM h0 (fun z => h1 (520 + z)) (fun z => h1 (0 + z)) n n 0 (j * 8 + z)) (addV (h0 0) (fun _ => 0) (fun z => h1 (0 + z)) (h1 (0 + j)))) (fun m' j hj => ?_) (fun m' => ?_) (by omega)).trans ?_
        · simp only [spec_l03Bialgebra.l2, spec_l03Bialgebra.b2]
          have g1 : (j : Int) < n := by omega
          have hj2 : (0 : Int) ≤ j ∧ (j : Int) < 8 := by omega
          have u := h.al.un (i := j) (by omega)
          simp only [h.al.size, g1, hj2, decide_true, if_true, and_self, Int.toNat_natCast, Nat.mul_one]
          rw [wrap64_id (x := h1 (0 + j)) (by omega) (by omega), spec_add _ h.al.p0 h.al.p255 (fun _ _ => by omega) (fun z hz => h.al.un hz) (by omega) (by omega)]
          by_cases he : eqN 8 (fun z => coM h0 (fun z => h1 (520 + z)) (fun z => h1 (0 + z)) n n 0 (j * 8 + z)) (addV (h0 0) (fun _ => 0) (fun z => h1 (0 + z)) (h1 (0 + j))) = true
          · simp only [he, Bool.not_true, Bool.false_eq_true, if_false, if_true, nx (show j < 100000 by omega)]
          · rw [Bool.not_eq_true] at he
            simp only [he, Bool.not_false, if_true, Bool.false_eq_true, if_false]
        · simp only [spec_l03Bialgebra.l2, spec_l03Bialgebra.b2, h.al.size, Int.lt_irrefl, decide_false, Bool.false_eq_true, if_false, spec_l03Bialgebra.a2_0]
          exact spec_bia5 h K
        · unfold ax4
          split <;> rfl
      · unfold ax3
        split <;> rfl
    · rw [Bool.not_eq_true] at hc
      simp [hc]
  · rw [Bool.not_eq_true] at ha
    simp [ha]

/-! axioms 6 and 7 -/

/-- a vector, modulo p -/
def red8 (p : Int) (R : Nat → Int) : Nat → Int := fun x => if x < 8 then R x % p else 0

theorem red8_zero {p : Int} : red8 p (fun _ => 0) = fun _ => 0 := by funext x; unfold red8; split <;> simp
theorem red8_congr {p : Int} {R S : Nat → Int} (h : ∀ x, x < 8 → R x = S x) : red8 p R = red8 p S := by
  funext x
  unfold red8
  split
  · rename_i hx; rw [h x hx]
  · rfl
theorem red8_add {p : Int} {R w : Nat → Int} {k : Int} : addV p (red8 p R) w k = red8 p (fun q => R q + k * w q) := by
  funext x
  unfold addV red8
  by_cases hx : x < 8
  · simp only [hx, if_true]; rw [Int.emod_add_emod]
  · simp only [hx, if_false]
theorem red8_in {p : Int} (hp : 0 < p) {R : Nat → Int} : inP p (red8 p R) := by
  intro z hz
  unfold red8
  split
  · exact ⟨Int.emod_nonneg _ (by omega), Int.emod_lt_of_pos _ hp⟩
  · omega

/-- one product of a folded coproduct -/
def fo (h0 h1 : Nat → Int) (n : Nat) (fst : Bool) (j k : Nat) : Nat → Int :=
  if fst = true then tm h0 h1 n (fun z => h1 (1040 + (j * 8 + z))) (eb k) else tm h0 h1 n (eb j) (fun z => h1 (1040 + (k * 8 + z)))

def foV (h0 h1 : Nat → Int) (n : Nat) (fst : Bool) (i : Nat) : Nat → Int := red8 (h0 0) (fun q => sumN (fun j => sumN (fun k => h1 (528 + i * 64 + j * 8 + k) * fo h0 h1 n fst j k q) n) n)

theorem spec_folded (h : HS h0 h1 n) (K : (Nat → Int) → Option ρ) (bh : Bool) {i : Nat} (hi : i < n) : spec_l03Folded 5000 K h0 h1 (i : Int) (fun z => h1 (1040 + z)) bh = K (foV h0 h1 n (!bh) i) := by
  have hn := h.al.le
  have p0 := h.al.p0
  have p255 := h.al.p255
  have hi2 : (0 : Int) ≤ i ∧ (i : Int) < 8 := by omega
  rw [spec_l03Folded, spec_l03Folded.s, spec_alg]
  refine loop_at (n := n) (fun j => red8 (h0 0) (fun q => sumN (fun j => sumN (fun k => h1 (528 + i * 64 + j * 8 + k) * fo h0 h1 n (!bh) j k q) n) j)) red8_zero.symm (fun m j hj => ?_) (fun m => ?_) (by omega)
  · simp only [spec_l03Folded.l0, spec_l03Folded.b0]
    have e1 : (j : Int) < n := by omega
    have hj2 : (0 : Int) ≤ j ∧ (j : Int) < 8 := by omega
    simp only [h.al.size, e1, decide_true, if_true]
    refine loop_at (n := n) (fun k => red8 (h0 0) (fun q => sumN (fun j => sumN (fun k => h1 (528 + i * 64 + j * 8 + k) * fo h0 h1 n (!bh) j k q) n) j + sumN (fun k => h1 (528 + i * 64 + j * 8 + k) * fo h0 h1 n (!bh) j k q) k)) (red8_congr fun q hq => by simp [sumN]) (fun m' k hk => ?_) (fun m' => ?_) (by omega)
    · simp only [spec_l03Folded.l1, spec_l03Folded.b1]
      have g1 : (k : Int) < n := by omega
      have hk2 : (0 : Int) ≤ k ∧ (k : Int) < 8 := by omega
      have en := h.cent (i := i) (j := j) (k := k) (by omega) (by omega) (by omega)
      have w : IntKind.i64.wrap (h1 (528 + i * 64 + j * 8 + k)) = h1 (528 + i * 64 + j * 8 + k) := wrap64_id (by omega) (by omega)
      simp only [h.al.size, g1, hi2, hj2, hk2, decide_true, if_true, and_self, Int.toNat_natCast, Nat.mul_one, w]
      have nk := nx (show k < 100000 by omega)
      by_cases hc0 : h1 (528 + i * 64 + j * 8 + k) = 0
      · have hcb : (h1 (528 + i * 64 + j * 8 + k) != 0) = false := by simp [hc0]
        simp only [hcb, Bool.false_eq_true, if_false, nk]
        congr 1
        exact red8_congr fun q hq => by simp only [sumN, hc0, Int.zero_mul, Int.add_zero]
      · have hcb : (h1 (528 + i * 64 + j * 8 + k) != 0) = true := by simpa using hc0
        simp only [hcb, if_true, spec_basis_eq _ (show k < 8 by omega), spec_basis_eq _ (show j < 8 by omega)]
        rw [h.times _ (h.an j (by omega)) (inP_basis h.al.p2 _)]
        cases bh
        · simp only [Bool.false_eq_true, if_false, Bool.not_false]
          rw [spec_add _ p0 p255 (inP_byte p255 (red8_in p0)) (inP_byte p255 (h.al.tm_in _ _)) (by omega) (by omega), red8_add]
          simp only [nk]
          congr 1
          exact red8_congr fun q hq => by simp only [sumN]; rw [Int.add_assoc]; rfl
        · simp only [if_true, Bool.not_true]
          rw [h.times _ (inP_basis h.al.p2 _) (h.an k (by omega))]
          rw [spec_add _ p0 p255 (inP_byte p255 (red8_in p0)) (inP_byte p255 (h.al.tm_in _ _)) (by omega) (by omega), red8_add]
          simp only [nk]
          congr 1
          exact red8_congr fun q hq => by simp only [sumN]; rw [Int.add_assoc]; rfl
    · simp only [spec_l03Folded.l1, spec_l03Folded.b1, h.al.size, Int.lt_irrefl, decide_false, Bool.false_eq_true, if_false, spec_l03Folded.a1_0, nx (show j < 100000 by omega)]
      rfl
  · simp only [spec_l03Folded.l0, spec_l03Folded.b0, h.al.size, Int.lt_irrefl, decide_false, Bool.false_eq_true, if_false, spec_l03Folded.a0_0]
    rfl

theorem foC (h : HS h0 h1 n) (K : (Nat → Int) → Option ρ) {f R : Nat → Int} (hf : f 0 = h0 0) {j k : Nat} {x : Int} (hj : j < 8) (hk : k < 8) (hx : 0 ≤ x ∧ x ≤ 255) (fst : Bool) :
    impl_Hopf_folded_c1 5000 K (j : Int) (k : Int) x fst f (red8 (h0 0) R) h0 h1 = K (red8 (h0 0) (fun q => R q + x * fo h0 h1 n fst j k q)) := by
  have p0 := h.al.p0
  have p255 := h.al.p255
  have hj2 : (0 : Int) ≤ j ∧ (j : Int) < 8 := by omega
  have hk2 : (0 : Int) ≤ k ∧ (k : Int) < 8 := by omega
  have r : ∀ j : Nat, (fun z => h1 (1040 + j * 8 + z)) = fun z => h1 (1040 + (j * 8 + z)) := fun j => by funext z; rw [Nat.add_assoc]
  rw [impl_Hopf_folded_c1]
  cases fst
  · simp only [Bool.false_eq_true, if_false, impl_basis_eq _ hj, hk2, and_self, if_true, Int.toNat_natCast, r]
    rw [h.product _ (inP_basis h.al.p2 _) (h.an k hk), impl_plus _ (by rw [hf]; exact p0) (by rw [hf]; exact p255) (by rw [hf]; exact red8_in p0) (inP_byte p255 (h.al.tm_in _ _)) (by omega) (by omega), hf, red8_add]
    rfl
  · simp only [if_true, impl_basis_eq _ hk, hj2, and_self, Int.toNat_natCast, r]
    rw [h.product _ (h.an j hj) (inP_basis h.al.p2 _), impl_plus _ (by rw [hf]; exact p0) (by rw [hf]; exact p255) (by rw [hf]; exact red8_in p0) (inP_byte p255 (h.al.tm_in _ _)) (by omega) (by omega), hf, red8_add]
    rfl

theorem impl_folded (h : HS h0 h1 n) (K : (Nat → Int) → Option ρ) (fst : Bool) {i : Nat} (hi : i < n) : impl_Hopf_folded 5000 K (i : Int) fst h0 h1 = K (foV h0 h1 n fst i) := by
  have hn := h.al.le
  have p0 := h.al.p0
  have p255 := h.al.p255
  have hi2 : (0 : Int) ≤ i ∧ (i : Int) < 8 := by omega
  have c0 : ∀ j k, j < 8 → k < 8 → (n ≤ j ∨ n ≤ k) → h1 (528 + i * 64 + j * 8 + k) = 0 := by
    intro j k hj hk ho
    have := h.co.mul0 i j k (by omega) hj hk (.inr ho)
    rw [show 528 + i * 64 + j * 8 + k = 520 + (8 + (i * 64 + (j * 8 + k))) by omega]
    exact this
  have e8 : foV h0 h1 n fst i = red8 (h0 0) (fun q => sumN (fun j => sumN (fun k => h1 (528 + i * 64 + j * 8 + k) * fo h0 h1 n fst j k q) 8) 8) := by
    unfold foV
    refine red8_congr fun q hq => ?_
    rw [sumN_out (n := n) (m := 8) hn fun j hj hj8 => by rw [sumN_congr (g := fun _ => 0) fun k hk => by rw [c0 j k hj8 hk (.inl hj), Int.zero_mul], sumN_zero]]
    refine sumN_congr fun j hj => ?_
    exact (sumN_out (n := n) hn fun k hk hk8 => by rw [c0 j k (by omega) hk8 (.inr hk), Int.zero_mul]).symm
  rw [e8, impl_Hopf_folded, impl_Hopf_field]
  have f0 := fld0 (a := h0)
  generalize upd (upd (fun _ => 0) 0 (h0 0)) 1 (h0 1) = r at f0
  simp only [hi2, and_self, if_true, Int.toNat_natCast]
  rw [impl_pairs_f_v3, impl_pairs_f_v3.s]
  refine loop_at (n := 8) (fun j => red8 (h0 0) (fun q => sumN (fun j => sumN (fun k => h1 (528 + i * 64 + j * 8 + k) * fo h0 h1 n fst j k q) 8) j)) red8_zero.symm (fun m j hj => ?_) (fun m => ?_) (by omega)
  · simp only [impl_pairs_f_v3.l0, impl_pairs_f_v3.b0]
    have e1 : (j : Int) < 8 := by omega
    have hj2 : (0 : Int) ≤ j ∧ (j : Int) < 8 := by omega
    simp only [e1, hj2, decide_true, if_true, and_self]
    refine loop_at (n := 8) (fun k => red8 (h0 0) (fun q => sumN (fun j => sumN (fun k => h1 (528 + i * 64 + j * 8 + k) * fo h0 h1 n fst j k q) 8) j + sumN (fun k => h1 (528 + i * 64 + j * 8 + k) * fo h0 h1 n fst j k q) k)) (red8_congr fun q hq => by simp [sumN]) (fun m' k hk => ?_) (fun m' => ?_) (by omega)
    · simp only [impl_pairs_f_v3.l1, impl_pairs_f_v3.b1]
      have g1 : (k : Int) < 8 := by omega
      have hk2 : (0 : Int) ≤ k ∧ (k : Int) < 8 := by omega
      have en := h.cent (i := i) (j := j) (k := k) (by omega) (by omega) (by omega)
      have nk := nx (show k < 100000 by omega)
      simp only [g1, hk2, decide_true, if_true, and_self, Int.toNat_natCast, ← Nat.add_assoc]
      by_cases hc0 : h1 (528 + i * 64 + j * 8 + k) = 0
      · have hcb : (h1 (528 + i * 64 + j * 8 + k) != 0) = false := by simp [hc0]
        simp only [hcb, Bool.false_eq_true, if_false, nk]
        congr 1
        exact red8_congr fun q hq => by simp only [sumN, hc0, Int.zero_mul, Int.add_zero]
      · have hcb : (h1 (528 + i * 64 + j * 8 + k) != 0) = true := by simpa using hc0
        simp only [hcb, if_true]
        rw [wrap64_id (x := h1 (528 + i * 64 + j * 8 + k)) (by omega) (by omega), foC h _ f0 hj hk en]
        simp only [nk]
        congr 1
        exact red8_congr fun q hq => by simp only [sumN]; rw [Int.add_assoc]
    · simp only [impl_pairs_f_v3.l1, impl_pairs_f_v3.b1, not8, decide_false, Bool.false_eq_true, if_false, impl_pairs_f_v3.a1_0, nx (show j < 100000 by omega)]
      rfl
  · simp only [impl_pairs_f_v3.l0, impl_pairs_f_v3.b0, not8, decide_false, Bool.false_eq_true, if_false, impl_pairs_f_v3.a0_0]

def axS (h0 h1 : Nat → Int) (n : Nat) (fst : Bool) : Bool := allN (fun i => eqN 8 (foV h0 h1 n fst i) (addV (h0 0) (fun _ => 0) (fun z => h1 (0 + z)) (h1 (520 + i)))) 0 n

theorem spec_axS (h : HS h0 h1 n) (K : Bool → Option ρ) (bh : Bool) : spec_l03Antipode 5000 K h0 h1 (fun z => h1 (1040 + z)) bh = K (axS h0 h1 n (!bh)) := by
  have hn := h.al.le
  rw [spec_l03Antipode, spec_l03Antipode.s]
  refine (all_at (n := n) (no := K false) (out := K true) (fun i => eqN 8 (foV h0 h1 n (!bh) i) (addV (h0 0) (fun _ => 0) (fun z => h1 (0 + z)) (h1 (520 + i)))) (fun m i hi => ?_) (fun m => ?_) (by omega)).trans ?_
  · simp only [spec_l03Antipode.l0, spec_l03Antipode.b0]
    have e1 : (i : Int) < n := by omega
    have hi2 : (0 : Int) ≤ i ∧ (i : Int) < 8 := by omega
    have u := h.cou (i := i) (by omega)
    simp only [h.al.size, e1, hi2, decide_true, if_true, and_self, Int.toNat_natCast, Nat.mul_one]
    rw [spec_folded h _ bh hi, wrap64_id (x := h1 (520 + i)) (by omega) (by omega), spec_add _ h.al.p0 h.al.p255 (fun _ _ => by omega) (fun z hz => h.al.un hz) (by omega) (by omega)]
    cases eqN 8 (foV h0 h1 n (!bh) i) (addV (h0 0) (fun _ => 0) (fun z => h1 (0 + z)) (h1 (520 + i))) <;> simp [nx (show i < 100000 by omega)]
  · simp only [spec_l03Antipode.l0, spec_l03Antipode.b0, h.al.size, Int.lt_irrefl, decide_false, Bool.false_eq_true, if_false, spec_l03Antipode.a0_0]
  · exact K_if K _

theorem impl_axS (h : HS h0 h1 n) (K : Bool → Option ρ) (fst : Bool) : impl_Hopf_axiomS 5000 K fst h0 h1 = K (axS h0 h1 n fst) := by
  have hn := h.al.le
  rw [impl_Hopf_axiomS, impl_Hopf_axiomS.s, impl_Hopf_field]
  have f0 := fld0 (a := h0)
  have f1 := (fld1 (a := h0)).trans h.al.size
  generalize upd (upd (fun _ => 0) 0 (h0 0)) 1 (h0 1) = r at f0 f1
  refine (all_at (n := n) (no := K false) (out := K true) (fun i => eqN 8 (foV h0 h1 n fst i) (addV (h0 0) (fun _ => 0) (fun z => h1 (0 + z)) (h1 (520 + i)))) (fun m i hi => ?_) (fun m => ?_) (by omega)).trans ?_
  · simp only [impl_Hopf_axiomS.l0, impl_Hopf_axiomS.b0, impl_field_times]
    have e1 : (i : Int) < n := by omega
    have hi2 : (0 : Int) ≤ i ∧ (i : Int) < 8 := by omega
    have u := h.cou (i := i) (by omega)
    simp only [f1, e1, hi2, decide_true, if_true, and_self, Int.toNat_natCast, Nat.mul_one]
    rw [impl_folded h _ fst hi, wrap64_id (x := h1 (520 + i)) (by omega) (by omega), impl_plus _ (by rw [f0]; exact h.al.p0) (by rw [f0]; exact h.al.p255) (by rw [f0]; have := h.al.p0; intro z hz; show (0 : Int) ≤ 0 ∧ (0 : Int) < h0 0; omega) (fun z hz => h.al.un hz) (by omega) (by omega), f0]
    cases eqN 8 (foV h0 h1 n fst i) (addV (h0 0) (fun _ => 0) (fun z => h1 (0 + z)) (h1 (520 + i))) <;> simp [nx (show i < 100000 by omega)]
  · simp only [impl_Hopf_axiomS.l0, impl_Hopf_axiomS.b0, f1, Int.lt_irrefl, decide_false, Bool.false_eq_true, if_false, impl_Hopf_axiomS.a0_0]
  · exact K_if K _

/-! which axiom fails -/

def fail (h0 h1 : Nat → Int) (n : Nat) : Int := if bia h0 h1 n = 0 then (if axS h0 h1 n true = true then (if axS h0 h1 n false = true then 0 else 7) else 6) else bia h0 h1 n

theorem spec_fails (h : HS h0 h1 n) (hb : ∀ i, i < 1104 → 0 ≤ h1 i ∧ h1 i ≤ 255) (K : Int → Option ρ) : spec_l03Fails 5000 K h0 h1 = K (fail h0 h1 n) := by
  rw [spec_l03Fails, spec_bia h hb]
  unfold fail
  by_cases hz : bia h0 h1 n = 0
  · simp only [hz, bne_self_eq_false, Bool.false_eq_true, if_false, if_true]
    rw [spec_axS h]
    simp only [Bool.not_false]
    by_cases h6 : axS h0 h1 n true = true
    · simp only [h6, Bool.not_true, Bool.false_eq_true, if_false, if_true]
      rw [spec_axS h]
      simp only [Bool.not_true]
      by_cases h7 : axS h0 h1 n false = true
      · simp [h7]
      · simp [h7]
    · simp [h6]
  · have hz' : (bia h0 h1 n != 0) = true := by simpa using hz
    simp only [hz', if_true, hz, if_false]

theorem impl_fails (h : HS h0 h1 n) (hb : ∀ i, i < 1104 → 0 ≤ h1 i ∧ h1 i ≤ 255) (K : Int → Option ρ) : impl_Hopf_fails 5000 K 7 h0 h1 = K (fail h0 h1 n) := by
  rw [impl_Hopf_fails]
  simp only [impl_Hopf_fails_c1, impl_Hopf_fails_c2, impl_Hopf_fails_c3, impl_Hopf_fails_c4, impl_alg, impl_co, impl_is (hb_al hb), impl_isCo (hb_co hb), impl_ax3 h, impl_ax4 h, impl_ax5 h, impl_axS h]
  have t7 : ((7 : Int).toNat : Int) = 7 := rfl
  simp only [t7]
  unfold fail bia
  cases algB (keepN 2 h0) (keepN 520 h1)
  · simp
  · cases coB (keepN 2 h0) (keepN 520 (fun z => h1 (520 + z)))
    · simp
    · cases ax3 h0 h1 n
      · simp
      · cases ax4 h0 h1 n
        · simp
        · cases ax5 h0 h1 n
          · simp
          · cases axS h0 h1 n true
            · simp
            · cases axS h0 h1 n false <;> simp

/-- is it a Hopf algebra? -/
def hopB (h0 h1 : Nat → Int) : Bool := shH h0 h1 && (fail h0 h1 (h0 1).toNat == 0)

theorem spec_isHopf (hb : ∀ i, i < 1104 → 0 ≤ h1 i ∧ h1 i ≤ 255) (K : Bool → Option ρ) : spec_l03Is 5000 K h0 h1 = K (hopB h0 h1) := by
  rw [spec_l03Is, spec_shapeH]
  unfold hopB
  by_cases hs : shH h0 h1 = true
  · obtain ⟨n, h⟩ := hs_of hs hb
    have e : (h0 1).toNat = n := by rw [h.al.size]; rfl
    simp only [hs, if_true, Bool.true_and, e, spec_fails h hb]
  · rw [Bool.not_eq_true] at hs
    simp [hs]

theorem impl_isHopf (hb : ∀ i, i < 1104 → 0 ≤ h1 i ∧ h1 i ≤ 255) (K : Bool → Option ρ) : impl_IsHopf 5000 K h0 h1 = K (hopB h0 h1) := by
  rw [impl_IsHopf, impl_shapeH]
  unfold hopB
  by_cases hs : shH h0 h1 = true
  · obtain ⟨n, h⟩ := hs_of hs hb
    have e : (h0 1).toNat = n := by rw [h.al.size]; rfl
    simp only [hs, if_true, Bool.true_and, e, impl_fails h hb]
  · rw [Bool.not_eq_true] at hs
    simp [hs]

end
end Go.Proofs.Ytacdnmdfoimjcaa.H
