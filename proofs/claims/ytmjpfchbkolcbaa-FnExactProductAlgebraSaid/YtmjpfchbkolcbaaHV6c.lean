/- The laws of the algebras: each law's own value is true, for all whole numbers and bytes. -/
import Derived.Test.YtmjpfchbkolcbaaHV5
namespace Go.Proofs.Ytmjpfchbkolcbaa.H
set_option linter.unusedVariables false
set_option linter.unusedSimpArgs false
open Go Go.RowKit Go.Proofs.Ytmjpfchbkolcbaa.Hx
set_option linter.unusedVariables false
set_option linter.unusedSimpArgs false
set_option maxRecDepth 100000

variable {ρ : Type}

theorem k2 {a : Nat → Int} : keepN 2 a 0 = a 0 ∧ keepN 2 a 1 = a 1 := ⟨rfl, rfl⟩

theorem fnExactIsAlgebra_law (K : Bool → Option ρ) (a0 a1 : Nat → Int) (h0 : ∀ i, IntKind.i64.has (a0 i)) (h1 : ∀ i, IntKind.u8.has (a1 i)) : laws_FnExactIsAlgebra 1000 K a0 a1 = K true := by
  simp only [laws_FnExactIsAlgebra, toAlgebra_eq, spec_IsAlgebra, spec_is (keepN_byte h1), impl_is (keepN_byte h1)]
  simp

/-! FirstFault -/

section
variable {a0 a1 : Nat → Int} {n : Nat}

/-- what is found, if the shape is right -/
def ffO (a0 a1 : Nat → Int) : Option (Nat × Nat × Nat) := fault a0 a1 (a0 1).toNat

theorem spec_firstFault (hb : ∀ i, i < 520 → 0 ≤ a1 i ∧ a1 i ≤ 255) (K0 : Int → Option ρ) (K1 : Nat → Nat → Int → (Nat → Int) → Option ρ) :
    spec_FirstFault 1000 K0 K1 a0 a1 = if shB a0 a1 = true then optK (ffO a0 a1) (fun t => K1 3 3 0 (tri t)) (K0 4) else K0 1 := by
  simp only [spec_FirstFault, spec_shape]
  by_cases hs : shB a0 a1 = true
  · obtain ⟨n, h⟩ := shp_of hs hb
    have e : (a0 1).toNat = n := by rw [h.size]; rfl
    simp only [hs, Bool.not_true, Bool.false_eq_true, if_false, if_true, ffO, e]
    rw [spec_fault h]
    cases fault a0 a1 n <;> simp [optK]
  · have hs' : shB a0 a1 = false := by simpa using hs
    simp [hs']

theorem impl_firstFault (hb : ∀ i, i < 520 → 0 ≤ a1 i ∧ a1 i ≤ 255) (K0 : Int → Option ρ) (K1 : Nat → Nat → Int → (Nat → Int) → Option ρ) :
    impl_FirstFault 1000 K0 K1 a0 a1 = if shB a0 a1 = true then optK (ffO a0 a1) (fun t => K1 3 3 0 (tri t)) (K0 4) else K0 1 := by
  simp only [impl_FirstFault, impl_shape]
  by_cases hs : shB a0 a1 = true
  · obtain ⟨n, h⟩ := shp_of hs hb
    have e : (a0 1).toNat = n := by rw [h.size]; rfl
    simp only [hs, Bool.not_true, Bool.false_eq_true, if_false, if_true, ffO, e, impl_unless_eq]
    rw [impl_fault h]
  · have hs' : shB a0 a1 = false := by simpa using hs
    simp [hs']
end

theorem eqInts_nn (K : Bool → Option ρ) : laws_eqInt64S_nn 1000 K = K true := rfl
theorem mark_n (K : Int → Option ρ) (k : Int) : laws_markInt64S_n 1000 K k = K k := rfl
theorem held_n (K : Int → Option ρ) (k : Int) : laws_heldInt64S_n 1000 K k = K k := rfl

theorem eqInts_ss (K : Bool → Option ρ) {g g' : Nat → Int} {c d e f : Nat} (h : ∀ i, i < 3 → g i = g' i) : laws_eqInt64S_ss 1000 K 3 c 3 d e g f g' = K true := by
  rw [laws_eqInt64S_ss, laws_eqInt64S_ss.s]
  simp only [bne_self_eq_false, Bool.false_eq_true, if_false]
  refine go_at (n := 3) (fun m i hi => ?_) (fun m => ?_) (by omega)
  · simp only [laws_eqInt64S_ss.l0, laws_eqInt64S_ss.b0]
    have h1 : (i : Int) < ((3 : Nat) : Int) := by omega
    have h2 : (0 : Int) ≤ i ∧ (i : Int) < ((3 : Nat) : Int) := by omega
    simp only [h1, h2, decide_true, if_true, and_self, Int.toNat_natCast, Nat.mul_one, Nat.zero_add, h i hi, bne_self_eq_false, Bool.false_eq_true, if_false, nx (show i < 100000 by omega)]
  · simp only [laws_eqInt64S_ss.l0, laws_eqInt64S_ss.b0, Int.lt_irrefl, decide_false, Bool.false_eq_true, if_false, laws_eqInt64S_ss.a0_0]

/-- the first n are marked -/
def markTo (k : Int) (g : Nat → Int) (n : Nat) : Nat → Int := fun i => if i < n then k + i else g i

theorem mark_s (K : Int → (Nat → Int) → Option ρ) {g : Nat → Int} {c e : Nat} : laws_markInt64S_s 1000 K 3 c 101 e g = K 104 (markTo 101 g 3) := by
  rw [laws_markInt64S_s, laws_markInt64S_s.s]
  have := loop_st (l := fun m i (s : Int × (Nat → Int)) => laws_markInt64S_s.l0 1000 K 3 (fun o8 o9 => laws_markInt64S_s.a0_0 1000 K o8 o9) m s.1 (i : Int) s.2) (n := 3) (out := K 104 (markTo 101 g 3)) (fun i => (101 + (i : Int), markTo 101 g i)) (fun m i hi => ?_) (fun m => ?_) 3 0 1000 (by omega) (by omega)
  · refine Eq.trans ?_ this
    have e : markTo 101 g 0 = g := by funext i; simp [markTo]
    rw [e]
    rfl
  · simp only [laws_markInt64S_s.l0, laws_markInt64S_s.b0]
    have h1 : (i : Int) < ((3 : Nat) : Int) := by omega
    have h2 : (0 : Int) ≤ i ∧ (i : Int) < ((3 : Nat) : Int) := by omega
    have h3 : IntKind.i64.wrap (101 + (i : Int) + 1) = 101 + ((i + 1 : Nat) : Int) := by rw [wrap64_id (by omega) (by omega)]; omega
    simp only [h1, h2, decide_true, if_true, and_self, Int.toNat_natCast, Nat.mul_one, Nat.zero_add, nx (show i < 100000 by omega), h3]
    congr 1
    funext x
    unfold upd markTo
    by_cases hx : x = i
    · rw [if_pos hx, if_pos (by omega), hx]
    · rw [if_neg hx]
      by_cases h4 : x < i
      · rw [if_pos h4, if_pos (by omega)]
      · rw [if_neg h4, if_neg (by omega)]
  · simp only [laws_markInt64S_s.l0, laws_markInt64S_s.b0, Int.lt_irrefl, decide_false, Bool.false_eq_true, if_false, laws_markInt64S_s.a0_0]
    rfl

theorem held_s (K : Int → Option ρ) {g : Nat → Int} {c e : Nat} (h : ∀ i : Nat, i < 3 → g i = 101 + i) : laws_heldInt64S_s 1000 K 3 c 101 e g = K 104 := by
  rw [laws_heldInt64S_s, laws_heldInt64S_s.s]
  refine loop_ta (n := 3) (fun i => 101 + (i : Int)) rfl (fun m i hi => ?_) (fun m => ?_) (by omega)
  · simp only [laws_heldInt64S_s.l0, laws_heldInt64S_s.b0]
    have h1 : (i : Int) < ((3 : Nat) : Int) := by omega
    have h2 : (0 : Int) ≤ i ∧ (i : Int) < ((3 : Nat) : Int) := by omega
    have h3 : IntKind.i64.wrap (101 + (i : Int) + 1) = 101 + ((i + 1 : Nat) : Int) := by rw [wrap64_id (by omega) (by omega)]; omega
    simp only [h1, h2, decide_true, if_true, and_self, Int.toNat_natCast, Nat.mul_one, Nat.zero_add, h i hi, bne_self_eq_false, Bool.false_eq_true, if_false, nx (show i < 100000 by omega), h3]
  · simp only [laws_heldInt64S_s.l0, laws_heldInt64S_s.b0, Int.lt_irrefl, decide_false, Bool.false_eq_true, if_false, laws_heldInt64S_s.a0_0]
    rfl

theorem mark_held {g r : Nat → Int} : ∀ i : Nat, i < 3 → (fun z => updN g 0 (3 * 1) (markTo 101 r 3) (0 + z)) i = 101 + i := by
  intro i hi
  simp only [updN, markTo, Nat.zero_add]
  rw [if_pos (by omega), if_pos (by omega)]
  rfl

theorem fnExactFirstFault_law (K : Bool → Option ρ) (a0 a1 : Nat → Int) (h0 : ∀ i, IntKind.i64.has (a0 i)) (h1 : ∀ i, IntKind.u8.has (a1 i)) : laws_FnExactFirstFault 1000 K a0 a1 = K true := by
  rw [laws_FnExactFirstFault]
  simp only [toAlgebra_eq]
  rw [spec_firstFault (keepN_byte h1)]
  by_cases hs : shB (keepN 2 a0) (keepN 520 a1) = true
  · rw [if_pos hs]
    cases hf : ffO (keepN 2 a0) (keepN 520 a1) with
    | none =>
      simp only [optK_none]
      rw [impl_firstFault (keepN_byte h1), if_pos hs, hf, optK_none, eqInts_nn]
      simp only [Bool.not_true, Bool.false_eq_true, if_false, bne_self_eq_false, mark_n, held_n]
      simp only [show ¬ ((101 : Int) < 0) by omega, decide_false, Bool.false_eq_true, if_false]
      rw [impl_firstFault (keepN_byte h1), if_pos hs, hf, optK_none, eqInts_nn]
      simp [held_n]
    | some t =>
      simp only [optK_some]
      rw [impl_firstFault (keepN_byte h1), if_pos hs, hf, optK_some, eqInts_ss _ fun i hi => rfl]
      simp only [Bool.not_true, Bool.false_eq_true, if_false, bne_self_eq_false, mark_s]
      rw [held_s _ mark_held]
      simp only [show ¬ ((104 : Int) < 0) by omega, decide_false, Bool.false_eq_true, if_false, bne_self_eq_false]
      rw [impl_firstFault (keepN_byte h1), if_pos hs, hf, optK_some, eqInts_ss _ fun i hi => rfl]
      simp only [Bool.not_true, Bool.false_eq_true, if_false, bne_self_eq_false]
      rw [held_s _ mark_held]
      simp
  · rw [if_neg hs]
    rw [impl_firstFault (keepN_byte h1), if_neg hs, eqInts_nn]
    simp only [Bool.not_true, Bool.false_eq_true, if_false, bne_self_eq_false, mark_n, held_n]
    simp only [show ¬ ((101 : Int) < 0) by omega, decide_false, Bool.false_eq_true, if_false]
    rw [impl_firstFault (keepN_byte h1), if_neg hs, eqInts_nn]
    simp [held_n]

/-! IsCommutative -/

section
variable {a0 a1 : Nat → Int} {n : Nat}

def comB (a1 : Nat → Int) (n : Nat) : Bool := allN (fun i => allN (fun k => eqN 8 (fun z => a1 (8 + i * 64 + k * 8 + z)) (fun z => a1 (8 + k * 64 + i * 8 + z))) 0 i) 0 n

theorem spec_comm (hb : ∀ i, i < 520 → 0 ≤ a1 i ∧ a1 i ≤ 255) (K : Bool → Int → Option ρ) : spec_IsCommutative 1000 K a0 a1 = if algB a0 a1 = true then K (comB a1 (a0 1).toNat) 0 else K false 1 := by
  rw [spec_IsCommutative, spec_IsCommutative.s]
  rw [spec_is hb]
  by_cases ha : algB a0 a1 = true
  · obtain ⟨n, h⟩ := algB_shp ha hb
    have hn := h.le
    have e : (a0 1).toNat = n := by rw [h.size]; rfl
    simp only [ha, Bool.not_true, Bool.false_eq_true, if_false, if_true, e]
    refine (all_at (n := n) (no := K false 0) (out := K true 0) (fun i => allN (fun k => eqN 8 (fun z => a1 (8 + i * 64 + k * 8 + z)) (fun z => a1 (8 + k * 64 + i * 8 + z))) 0 i) (fun m i hi => ?_) (fun m => ?_) (by omega)).trans ?_
    · simp only [spec_IsCommutative.l0, spec_IsCommutative.b0]
      have h1 : (i : Int) < n := by omega
      simp only [h.size, h1, decide_true, if_true]
      refine all_at (n := i) (fun k => eqN 8 (fun z => a1 (8 + i * 64 + k * 8 + z)) (fun z => a1 (8 + k * 64 + i * 8 + z))) (fun m' k hk => ?_) (fun m' => ?_) (by omega)
      · simp only [spec_IsCommutative.l1, spec_IsCommutative.b1]
        have g1 : (k : Int) < i := by omega
        have g2 : (0 : Int) ≤ i ∧ (i : Int) < 8 := by omega
        have g3 : (0 : Int) ≤ k ∧ (k : Int) < 8 := by omega
        simp only [g1, g2, g3, decide_true, if_true, and_self, Int.toNat_natCast, nx (show k < 100000 by omega)]
        cases eqN 8 (fun z => a1 (8 + i * 64 + k * 8 + z)) (fun z => a1 (8 + k * 64 + i * 8 + z)) <;> simp
      · simp only [spec_IsCommutative.l1, spec_IsCommutative.b1, Int.lt_irrefl, decide_false, Bool.false_eq_true, if_false, spec_IsCommutative.a1_0, nx (show i < 100000 by omega)]
    · simp only [spec_IsCommutative.l0, spec_IsCommutative.b0, h.size, Int.lt_irrefl, decide_false, Bool.false_eq_true, if_false, spec_IsCommutative.a0_0]
    · unfold comB
      split
      · rename_i hu; rw [hu]
      · rename_i hu; rw [Bool.eq_false_iff.2 hu]
  · have ha' : algB a0 a1 = false := by simpa using ha
    simp [ha']

theorem opp_at {a : Nat → Int} {i j z : Nat} (hi : i < 8) (hj : j < 8) (hz : z < 8) : oppTo a 64 (8 + (i * 64 + j * 8 + z)) = a (8 + (j * 64 + i * 8 + z)) := by
  unfold oppTo
  have e : 8 + (i * 64 + j * 8 + z) - 8 = i * 64 + j * 8 + z := by omega
  rw [e, pl_div8 hz, pl_mod8 hz, pl_div64 hj hz, if_pos (by omega)]
  congr 1; omega

theorem comm_same (h : Shp a0 a1 n) : eqN 512 (fun z => oppTo a1 64 (8 + z)) (fun z => a1 (8 + z)) = comB a1 n := by
  have hn := h.le
  rw [Bool.eq_iff_iff]
  simp only [comB, allN_true, eqN, decide_eq_true_eq]
  constructor
  · intro H i _ hi k _ hk z hz
    have := H (k * 64 + i * 8 + z) (by omega)
    rw [opp_at (by omega) (by omega) hz] at this
    rw [show 8 + i * 64 + k * 8 + z = 8 + (i * 64 + k * 8 + z) by omega, show 8 + k * 64 + i * 8 + z = 8 + (k * 64 + i * 8 + z) by omega]
    exact this
  · intro H x hx
    obtain ⟨i, k, z, hi, hk, hz, rfl⟩ := split3 hx
    rw [opp_at hi hk hz]
    have key : ∀ i k : Nat, i < 8 → k < 8 → k < i → a1 (8 + (i * 64 + k * 8 + z)) = a1 (8 + (k * 64 + i * 8 + z)) := by
      intro i k hi hk hki
      by_cases hin : i < n
      · have := H i (by omega) (by omega) k (by omega) (by omega) z hz
        rw [show 8 + i * 64 + k * 8 + z = 8 + (i * 64 + k * 8 + z) by omega, show 8 + k * 64 + i * 8 + z = 8 + (k * 64 + i * 8 + z) by omega] at this
        exact this
      · have e1 := h.mul0 i k z hi hk hz (by omega)
        have e2 := h.mul0 k i z hk hi hz (by omega)
        rw [show i * 64 + k * 8 + z = i * 64 + (k * 8 + z) by omega, show k * 64 + i * 8 + z = k * 64 + (i * 8 + z) by omega, e1, e2]
    rcases Nat.lt_trichotomy i k with h1 | h1 | h1
    · exact key k i hk hi h1
    · subst h1; rfl
    · exact (key i k hi hk h1).symm

theorem impl_comm (hb : ∀ i, i < 520 → 0 ≤ a1 i ∧ a1 i ≤ 255) (K : Bool → Int → Option ρ) : impl_IsCommutative 1000 K a0 a1 = if algB a0 a1 = true then K (comB a1 (a0 1).toNat) 0 else K false 1 := by
  rw [impl_IsCommutative, impl_code0 hb]
  by_cases ha : algB a0 a1 = true
  · obtain ⟨n, h⟩ := algB_shp ha hb
    have e : (a0 1).toNat = n := by rw [h.size]; rfl
    simp only [ha, if_true, bne_self_eq_false, Bool.false_eq_true, if_false, impl_opposite, comm_same h, e]
  · have ha' : algB a0 a1 = false := by simpa using ha
    simp [ha']
end

theorem fnExactIsCommutative_law (K : Bool → Option ρ) (a0 a1 : Nat → Int) (h0 : ∀ i, IntKind.i64.has (a0 i)) (h1 : ∀ i, IntKind.u8.has (a1 i)) : laws_FnExactIsCommutative 1000 K a0 a1 = K true := by
  rw [laws_FnExactIsCommutative]
  simp only [toAlgebra_eq]
  simp only [spec_comm (keepN_byte h1), impl_comm (keepN_byte h1)]
  by_cases ha : algB (keepN 2 a0) (keepN 520 a1) = true
  · simp [ha]
  · simp [ha]

/-! MultiplyVectors -/

theorem two_vec {v w : Nat → Int} {i : Nat} (hv : ∀ i, 0 ≤ v i ∧ v i ≤ 255) (hw : ∀ i, 0 ≤ w i ∧ w i ≤ 255) : 0 ≤ (fun z => updN (updN (fun _ => 0) 0 8 v) 8 8 w (0 + z)) i ∧ (fun z => updN (updN (fun _ => 0) 0 8 v) 8 8 w (0 + z)) i ≤ 255 := by
  simp only [updN]
  split
  · exact hw _
  · split
    · exact hv _
    · omega

theorem two_fst {p : Int} {v w : Nat → Int} (h : inP p (fun z => (fun z => updN (updN (fun _ => 0) 0 8 v) 8 8 w (0 + z)) (0 * 8 + z))) : inP p v := by
  intro z hz
  have := h z hz
  simp only [updN] at this
  rw [if_neg (by omega), if_pos (by omega), show 0 + (0 * 8 + z) - 0 = z by omega] at this
  exact this

theorem two_snd {p : Int} {v w : Nat → Int} (h : inP p (fun z => (fun z => updN (updN (fun _ => 0) 0 8 v) 8 8 w (0 + z)) (1 * 8 + z))) : inP p w := by
  intro z hz
  have := h z hz
  simp only [updN] at this
  rw [if_pos (by omega), show 0 + (1 * 8 + z) - 8 = z by omega] at this
  exact this

theorem keepN_byte' {m : Nat} {a : Nat → Int} (h : ∀ i, IntKind.u8.has (a i)) (i : Nat) : 0 ≤ keepN m a i ∧ keepN m a i ≤ 255 := by
  unfold keepN
  split
  · exact h i
  · omega

theorem fnExactMultiplyVectors_law (K : Bool → Option ρ) (a0 a1 v w : Nat → Int) (h0 : ∀ i, IntKind.i64.has (a0 i)) (h1 : ∀ i, IntKind.u8.has (a1 i)) (h2 : ∀ i, IntKind.u8.has (v i)) (h3 : ∀ i, IntKind.u8.has (w i)) : laws_FnExactMultiplyVectors 1000 K a0 a1 v w = K true := by
  rw [laws_FnExactMultiplyVectors]
  simp only [toAlgebra_eq, toVector_eq]
  simp only [spec_MultiplyVectors, impl_MultiplyVectors, spec_code16 (keepN_byte h1) _ _ (show 2 < 900 by omega), impl_code16 (keepN_byte h1) _ _ (show 2 < 900 by omega)]
  by_cases hc : (algB (keepN 2 a0) (keepN 520 a1) && listB (keepN 2 a0 0) (keepN 2 a0 1) (fun z => updN (updN (fun _ => 0) 0 8 (keepN 8 v)) 8 8 (keepN 8 w) (0 + z)) 2) = true
  · simp only [hc, if_true, bne_self_eq_false, Bool.false_eq_true, if_false]
    rw [Bool.and_eq_true] at hc
    obtain ⟨n, h⟩ := algB_shp hc.1 (keepN_byte h1)
    have hv := two_fst (listB_in hc.2 (fun i hi => two_vec (keepN_byte' h2) (keepN_byte' h3)) (show 0 < 2 by omega))
    have hw := two_snd (listB_in hc.2 (fun i hi => two_vec (keepN_byte' h2) (keepN_byte' h3)) (show 1 < 2 by omega))
    simp only [h.times _ hv hw, h.product _ hv hw, eqVector_self]
    simp
  · rw [Bool.not_eq_true] at hc
    simp only [hc, Bool.false_eq_true, if_false]
    simp [eqVector_self]

/-! TraceOf, LeftTable, PowerOf -/

theorem one_vec {v : Nat → Int} {i : Nat} (hv : ∀ i, 0 ≤ v i ∧ v i ≤ 255) : 0 ≤ (fun z => v (0 + z)) i ∧ (fun z => v (0 + z)) i ≤ 255 := hv _

theorem one_fst {p : Int} {v : Nat → Int} (h : inP p (fun z => (fun z => v (0 + z)) (0 * 8 + z))) : inP p v := by
  intro z hz
  have := h z hz
  simp only at this
  rw [show 0 + (0 * 8 + z) = z by omega] at this
  exact this

theorem left_diag {a0 a1 : Nat → Int} {n : Nat} (h : Shp a0 a1 n) (v : Nat → Int) (i : Nat) (hi : i < 8) : 0 ≤ leftV a0 a1 n v (i * 8 + i) ∧ leftV a0 a1 n v (i * 8 + i) ≤ 255 := by
  unfold leftV rowsV
  split
  · have h1 := h.tm_in v (eb ((i * 8 + i) / 8)) ((i * 8 + i) % 8) (by omega)
    have h2 := h.p255
    show 0 ≤ tm a0 a1 n v (eb ((i * 8 + i) / 8)) ((i * 8 + i) % 8) ∧ tm a0 a1 n v (eb ((i * 8 + i) / 8)) ((i * 8 + i) % 8) ≤ 255
    omega
  · omega

theorem fnExactTraceOf_law (K : Bool → Option ρ) (a0 a1 v : Nat → Int) (h0 : ∀ i, IntKind.i64.has (a0 i)) (h1 : ∀ i, IntKind.u8.has (a1 i)) (h2 : ∀ i, IntKind.u8.has (v i)) : laws_FnExactTraceOf 1000 K a0 a1 v = K true := by
  rw [laws_FnExactTraceOf]
  simp only [toAlgebra_eq, toVector_eq]
  simp only [spec_TraceOf, impl_TraceOf, spec_code8 (keepN_byte h1) _ _ (show 1 < 900 by omega), impl_code8 (keepN_byte h1) _ _ (show 1 < 900 by omega)]
  by_cases hc : (algB (keepN 2 a0) (keepN 520 a1) && listB (keepN 2 a0 0) (keepN 2 a0 1) (fun z => keepN 8 v (0 + z)) 1) = true
  · simp only [hc, if_true, bne_self_eq_false, Bool.false_eq_true, if_false]
    rw [Bool.and_eq_true] at hc
    obtain ⟨n, h⟩ := algB_shp hc.1 (keepN_byte h1)
    have hv := one_fst (listB_in hc.2 (fun i hi => one_vec (keepN_byte' h2)) (show 0 < 1 by omega))
    have hn := h.le
    simp only [spec_left h _ hv, impl_left h _ hv, impl_Algebra_field, h.size]
    rw [spec_trace _ h.p0 h.le (fun i hi => left_diag h _ i (by omega)), impl_trace _ (by simpa [upd] using h.p0) (left_diag h _)]
    rw [sumN_out (n := n) h.le (fun i hi hi' => by unfold leftV rowsV; rw [if_neg (by omega)])]
    simp [upd]
  · rw [Bool.not_eq_true] at hc
    simp only [hc, Bool.false_eq_true, if_false]
    simp

theorem fnExactLeftTable_law (K : Bool → Option ρ) (a0 a1 v : Nat → Int) (h0 : ∀ i, IntKind.i64.has (a0 i)) (h1 : ∀ i, IntKind.u8.has (a1 i)) (h2 : ∀ i, IntKind.u8.has (v i)) : laws_FnExactLeftTable 1000 K a0 a1 v = K true := by
  rw [laws_FnExactLeftTable]
  simp only [toAlgebra_eq, toVector_eq]
  simp only [spec_LeftTable, impl_LeftTable, spec_code8 (keepN_byte h1) _ _ (show 1 < 900 by omega), impl_code8 (keepN_byte h1) _ _ (show 1 < 900 by omega)]
  by_cases hc : (algB (keepN 2 a0) (keepN 520 a1) && listB (keepN 2 a0 0) (keepN 2 a0 1) (fun z => keepN 8 v (0 + z)) 1) = true
  · simp only [hc, if_true, bne_self_eq_false, Bool.false_eq_true, if_false]
    rw [Bool.and_eq_true] at hc
    obtain ⟨n, h⟩ := algB_shp hc.1 (keepN_byte h1)
    have hv := one_fst (listB_in hc.2 (fun i hi => one_vec (keepN_byte' h2)) (show 0 < 1 by omega))
    simp only [spec_left h _ hv, impl_left h _ hv, eqLinear_self]
    simp
  · rw [Bool.not_eq_true] at hc
    simp only [hc, Bool.false_eq_true, if_false]
    simp [eqLinear_self]

theorem spec_in100 (K : Bool → Option ρ) (k : Int) : spec_l01In 1000 K k 0 100 = K (decide (0 ≤ k) && decide (k ≤ 100)) := spec_in K k 0 100

theorem first2_any (K : Int → Option ρ) (g : Nat → Int) {m c : Nat} (hm : m < 900) : impl_first_s2 1000 K m c g = optK (firstN (fun i => if g i = 0 then none else some (g i)) 0 m) K (K 0) := by
  rw [impl_first_s2, impl_first_s2.s]
  refine find_at (n := m) (fun i => if g i = 0 then none else some (g i)) K (fun k i hi => ?_) (fun k => ?_) (by omega)
  · simp only [impl_first_s2.l0, impl_first_s2.b0]
    have h1 : (i : Int) < m := by omega
    have h2 : (0 : Int) ≤ i ∧ (i : Int) < m := by omega
    simp only [h1, h2, decide_true, if_true, and_self, Int.toNat_natCast, Nat.mul_one, Nat.zero_add, nx (show i < 100000 by omega)]
    by_cases hg : g i = 0
    · simp [hg, optK]
    · simp [hg, optK]
  · simp only [impl_first_s2.l0, impl_first_s2.b0, Int.lt_irrefl, decide_false, Bool.false_eq_true, if_false, impl_first_s2.a0_0]

theorem first2 (K : Int → Option ρ) (x y : Int) : impl_first_s2 1000 K 2 2 (fun z => upd (upd (fun _ => 0) 0 x) 1 y (0 + z)) = if x = 0 then K y else K x := by
  rw [first2_any _ _ (by omega)]
  have e0 : upd (upd (fun _ => 0) 0 x) 1 y 0 = x := by simp [upd]
  have e1 : upd (upd (fun _ => 0) 0 x) 1 y 1 = y := by simp [upd]
  simp only [firstN, Nat.zero_add, e0, e1]
  by_cases hx : x = 0
  · by_cases hy : y = 0
    · simp [hx, hy, optK]
    · simp [hx, hy, optK]
  · simp [hx, optK]

theorem fnExactPowerOf_law (K : Bool → Option ρ) (a0 a1 v : Nat → Int) (k : Int) (h0 : ∀ i, IntKind.i64.has (a0 i)) (h1 : ∀ i, IntKind.u8.has (a1 i)) (h2 : ∀ i, IntKind.u8.has (v i)) (h3 : IntKind.i64.has k) : laws_FnExactPowerOf 1000 K a0 a1 v k = K true := by
  rw [laws_FnExactPowerOf]
  simp only [toAlgebra_eq, toVector_eq]
  rw [spec_PowerOf, spec_PowerOf.s, spec_code8 (keepN_byte h1) _ _ (show 1 < 900 by omega)]
  simp only [impl_PowerOf, impl_code8 (keepN_byte h1) _ _ (show 1 < 900 by omega), spec_in, impl_in_eq, impl_unless_eq, first2]
  by_cases hc : (algB (keepN 2 a0) (keepN 520 a1) && listB (keepN 2 a0 0) (keepN 2 a0 1) (fun z => keepN 8 v (0 + z)) 1) = true
  · simp only [hc, if_true, bne_self_eq_false, Bool.false_eq_true, if_false]
    rw [Bool.and_eq_true] at hc
    obtain ⟨n, h⟩ := algB_shp hc.1 (keepN_byte h1)
    have hv := one_fst (listB_in hc.2 (fun i hi => one_vec (keepN_byte' h2)) (show 0 < 1 by omega))
    by_cases hk : 0 ≤ k ∧ k ≤ 100
    · obtain ⟨q, rfl⟩ : ∃ q : Nat, k = q := ⟨k.toNat, by omega⟩
      have hq : q ≤ 100 := by omega
      simp only [hk.1, hk.2, decide_true, Bool.and_true, Bool.not_true, Bool.false_eq_true, if_false, if_true]
      rw [spec_powLoop h _ hq hv]
      simp only [bne_self_eq_false, Bool.false_eq_true, if_false, impl_power h _ hq hv, eqVector_self]
      simp
    · have hd : (decide (0 ≤ k) && decide (k ≤ 100)) = false := by
        by_cases h4 : 0 ≤ k
        · have : ¬ k ≤ 100 := by omega
          simp [h4, this]
        · simp [h4]
      simp [hd, eqVector_self]
  · rw [Bool.not_eq_true] at hc
    simp only [hc, Bool.false_eq_true, if_false]
    simp [eqVector_self]

end Go.Proofs.Ytmjpfchbkolcbaa.H
