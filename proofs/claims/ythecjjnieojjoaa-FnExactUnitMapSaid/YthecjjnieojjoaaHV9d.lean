/- The laws of the coalgebras: each law's own value is true, for all whole numbers and bytes. -/
import Derived.Test.YthecjjnieojjoaaHV8d
namespace Go.Proofs.Ythecjjnieojjoaa.H
set_option linter.unusedVariables false
set_option linter.unusedSimpArgs false
open Go Go.RowKit Go.Proofs.Ythecjjnieojjoaa.Hx
set_option linter.unusedVariables false
set_option linter.unusedSimpArgs false
set_option maxRecDepth 100000

variable {ρ : Type}

theorem fnExactIsCoalgebra_law (K : Bool → Option ρ) (a0 a1 : Nat → Int) (h0 : ∀ i, IntKind.i64.has (a0 i)) (h1 : ∀ i, IntKind.u8.has (a1 i)) : laws_FnExactIsCoalgebra 5000 K a0 a1 = K true := by
  simp only [laws_FnExactIsCoalgebra, toCoalgebra_eq, spec_IsCoalgebra, spec_isCo (keepN_byte h1), impl_isCo (keepN_byte h1)]
  simp

/-! FirstCoFault -/

section
variable {c0 c1 : Nat → Int} {n : Nat}

def fcO (a0 a1 : Nat → Int) : Option Nat := coFault a0 a1 (a0 1).toNat

theorem spec_firstCoFault (hb : ∀ i, i < 520 → 0 ≤ c1 i ∧ c1 i ≤ 255) (K0 : Int → Option ρ) (K1 : Nat → Nat → Int → (Nat → Int) → Option ρ) :
    spec_FirstCoFault 5000 K0 K1 c0 c1 = if shB c0 c1 = true then optK (fcO c0 c1) (fun t => K1 4 4 0 (quad (c0 1).toNat t)) (K0 4) else K0 1 := by
  simp only [spec_FirstCoFault, spec_shape2]
  by_cases hs : shB c0 c1 = true
  · obtain ⟨n, h⟩ := shp_of hs hb
    have e : (c0 1).toNat = n := by rw [h.size]; rfl
    simp only [hs, Bool.not_true, Bool.false_eq_true, if_false, if_true, fcO, e]
    rw [spec_coFault h]
    cases coFault c0 c1 n <;> simp [optK]
  · have hs' : shB c0 c1 = false := by simpa using hs
    simp [hs']

theorem impl_firstCoFault (hb : ∀ i, i < 520 → 0 ≤ c1 i ∧ c1 i ≤ 255) (K0 : Int → Option ρ) (K1 : Nat → Nat → Int → (Nat → Int) → Option ρ) :
    impl_FirstCoFault 5000 K0 K1 c0 c1 = if shB c0 c1 = true then optK (fcO c0 c1) (fun t => K1 4 4 0 (quad (c0 1).toNat t)) (K0 4) else K0 1 := by
  simp only [impl_FirstCoFault, impl_shape2]
  by_cases hs : shB c0 c1 = true
  · obtain ⟨n, h⟩ := shp_of hs hb
    have e : (c0 1).toNat = n := by rw [h.size]; rfl
    simp only [hs, Bool.not_true, Bool.false_eq_true, if_false, if_true, fcO, e, impl_unless_eq]
    rw [impl_coFault h]
  · have hs' : shB c0 c1 = false := by simpa using hs
    simp [hs']
end

theorem fnExactFirstCoFault_law (K : Bool → Option ρ) (a0 a1 : Nat → Int) (h0 : ∀ i, IntKind.i64.has (a0 i)) (h1 : ∀ i, IntKind.u8.has (a1 i)) : laws_FnExactFirstCoFault 5000 K a0 a1 = K true := by
  rw [laws_FnExactFirstCoFault]
  simp only [toCoalgebra_eq]
  rw [spec_firstCoFault (keepN_byte h1)]
  by_cases hs : shB (keepN 2 a0) (keepN 520 a1) = true
  · rw [if_pos hs]
    cases hf : fcO (keepN 2 a0) (keepN 520 a1) with
    | none =>
      simp only [optK_none]
      rw [impl_firstCoFault (keepN_byte h1), if_pos hs, hf, optK_none, eqInts_nn]
      simp only [Bool.not_true, Bool.false_eq_true, if_false, bne_self_eq_false, mark_n, held_n]
      simp only [show ¬ ((101 : Int) < 0) by omega, decide_false, Bool.false_eq_true, if_false]
      rw [impl_firstCoFault (keepN_byte h1), if_pos hs, hf, optK_none, eqInts_nn]
      simp [held_n]
    | some t =>
      simp only [optK_some]
      rw [impl_firstCoFault (keepN_byte h1), if_pos hs, hf, optK_some, eqInts_ss _ fun i hi => rfl]
      simp only [Bool.not_true, Bool.false_eq_true, if_false, bne_self_eq_false, mark_s]
      rw [held_s _ mark_held]
      simp only [show ¬ ((105 : Int) < 0) by omega, decide_false, Bool.false_eq_true, if_false, bne_self_eq_false]
      rw [impl_firstCoFault (keepN_byte h1), if_pos hs, hf, optK_some, eqInts_ss _ fun i hi => rfl]
      simp only [Bool.not_true, Bool.false_eq_true, if_false, bne_self_eq_false]
      rw [held_s _ mark_held]
      simp
  · rw [if_neg hs]
    rw [impl_firstCoFault (keepN_byte h1), if_neg hs, eqInts_nn]
    simp only [Bool.not_true, Bool.false_eq_true, if_false, bne_self_eq_false, mark_n, held_n]
    simp only [show ¬ ((101 : Int) < 0) by omega, decide_false, Bool.false_eq_true, if_false]
    rw [impl_firstCoFault (keepN_byte h1), if_neg hs, eqInts_nn]
    simp [held_n]

/-! codes -/

section
variable {c0 c1 : Nat → Int} {n : Nat}

theorem spec_cocode8 (hb : ∀ i, i < 520 → 0 ≤ c1 i ∧ c1 i ≤ 255) (K : Int → Option ρ) (g : Nat → Int) {m c : Nat} (hm : m < 900) : spec_l02Code_s8 5000 K c0 c1 m c g = K (if (coB c0 c1 && listB (c0 0) (c0 1) g m) = true then 0 else 1) := by
  simp only [spec_l02Code_s8, spec_l02Code_s8.s, spec_isCo hb]
  cases coB c0 c1
  · simp
  · simp only [Bool.not_true, Bool.false_eq_true, if_false, Bool.true_and]
    refine (all_at (n := m) (fun i => vecB (c0 0) (c0 1) (fun z => g (i * 8 + z))) (no := K 1) (out := K 0) (fun k i hi => ?_) (fun k => ?_) (by omega)).trans ?_
    · simp only [spec_l02Code_s8.l0, spec_l02Code_s8.b0, spec_vector]
      have h1 : (i : Int) < m := by omega
      have h2 : (0 : Int) ≤ i ∧ (i : Int) < m := by omega
      simp only [h1, h2, decide_true, if_true, and_self, Int.toNat_natCast, Nat.zero_add, nx (show i < 100000 by omega)]
      cases vecB (c0 0) (c0 1) (fun z => g (i * 8 + z)) <;> simp
    · simp only [spec_l02Code_s8.l0, spec_l02Code_s8.b0, Int.lt_irrefl, decide_false, Bool.false_eq_true, if_false, spec_l02Code_s8.a0_0]
    · unfold listB
      split <;> rfl

theorem impl_coindex (K : Int → Option ρ) (g g4 g5 : Nat → Int) (hs : sizB (g4 0) (g4 1) = true) {m c d : Nat} (hm : m < 900) :
    slices_IndexFunc_sf 5000 K m c d g g4 g5 = optK (firstN (fun i => if vecB (g4 0) (g4 1) (fun z => g (i * 8 + z)) = true then none else some i) 0 m) (fun i => K (i : Int)) (K (-1)) := by
  rw [slices_IndexFunc_sf, slices_IndexFunc_sf.s]
  refine find_at (n := m) (fun i => if vecB (g4 0) (g4 1) (fun z => g (i * 8 + z)) = true then none else some i) (fun i => K (i : Int)) (fun k i hi => ?_) (fun k => ?_) (by omega)
  · simp only [slices_IndexFunc_sf.l0, slices_IndexFunc_sf.b0, impl_Coalgebra_has_c1, impl_isVector, hs, Bool.true_and]
    have h1 : (i : Int) < m := by omega
    have h2 : (0 : Int) ≤ i ∧ (i : Int) < m := by omega
    simp only [h1, h2, decide_true, if_true, and_self, Int.toNat_natCast, Nat.zero_add, nx (show i < 100000 by omega)]
    cases vecB (g4 0) (g4 1) (fun z => g (i * 8 + z)) <;> simp [optK]
  · simp only [slices_IndexFunc_sf.l0, slices_IndexFunc_sf.b0, Int.lt_irrefl, decide_false, Bool.false_eq_true, if_false, slices_IndexFunc_sf.a0_0]

theorem impl_cohas (K : Bool → Option ρ) (g a0 a1 : Nat → Int) (hs : sizB (a0 0) (a0 1) = true) {m c d : Nat} (hm : m < 900) : impl_Coalgebra_has_s 5000 K m c a0 a1 d g = K (listB (a0 0) (a0 1) g m) := by
  simp only [impl_Coalgebra_has_s, slices_ContainsFunc_sf]
  rw [impl_coindex _ _ _ _ hs hm]
  simp only [Nat.zero_add]
  unfold listB
  rw [← firstN_none (f := fun i => i)]
  cases firstN (fun i => if vecB (a0 0) (a0 1) (fun z => g (i * 8 + z)) = true then none else some i) 0 m with
  | none => simp [optK]
  | some i => simp [optK]

theorem coB_siz (h : coB c0 c1 = true) : sizB (c0 0) (c0 1) = true := by
  simp only [coB, shB, Bool.and_eq_true] at h
  exact h.1.1

theorem impl_cocode8 (hb : ∀ i, i < 520 → 0 ≤ c1 i ∧ c1 i ≤ 255) (K : Int → Option ρ) (g : Nat → Int) {m c : Nat} (hm : m < 900) : impl_Coalgebra_code_s8 5000 K m c c0 c1 g = K (if (coB c0 c1 && listB (c0 0) (c0 1) g m) = true then 0 else 1) := by
  simp only [impl_Coalgebra_code_s8, impl_isCo hb]
  by_cases h : coB c0 c1 = true
  · simp only [h, if_true, Bool.true_and]
    rw [impl_cohas _ _ _ _ (coB_siz h) hm, impl_unless_eq]
    simp only [Nat.zero_add]
  · have h' : coB c0 c1 = false := by simpa using h
    simp [h', impl_unless_eq]

theorem impl_cocode0 (hb : ∀ i, i < 520 → 0 ≤ c1 i ∧ c1 i ≤ 255) (K : Int → Option ρ) : impl_Coalgebra_code_n 5000 K c0 c1 = K (if coB c0 c1 = true then 0 else 1) := by
  simp only [impl_Coalgebra_code_n, impl_isCo hb]
  by_cases h : coB c0 c1 = true
  · simp only [h, if_true]
    rfl
  · have h' : coB c0 c1 = false := by simpa using h
    simp [h', impl_unless_eq]

/-! the Counit of a vector -/

theorem spec_counit (h : Shp c0 c1 n) (K : Int → Option ρ) {v : Nat → Int} (hv : ∀ i, i < 8 → 0 ≤ v i ∧ v i ≤ 255) : spec_l02Counit 5000 K c0 c1 v = K (sumN (fun i => v i * c1 (0 + i)) 8 % c0 0) := by
  rw [spec_l02Counit, spec_l02Counit.s]
  refine loop_ta (n := 8) (fun k => sumN (fun i => v i * c1 (0 + i)) k) rfl (fun m k hk => ?_) (fun m => ?_) (by omega)
  · simp only [spec_l02Counit.l0, spec_l02Counit.b0]
    have f1 : (k : Int) < 8 := by omega
    have hk2 : (0 : Int) ≤ k ∧ (k : Int) < 8 := by omega
    simp only [f1, hk2, decide_true, if_true, and_self, Int.toNat_natCast, Nat.mul_one, nx (show k < 100000 by omega)]
    rw [mac (sum_small (by omega) (fun a ha => hv a (by omega)) (fun a ha => h.un (by omega))) (hv k hk) (h.un hk)]
    rfl
  · have sm := sum_small (f := v) (g := fun i => c1 (0 + i)) (n := 8) (by omega) hv (fun a ha => h.un ha)
    have h0 : ¬ c0 0 = 0 := by have := h.p0; omega
    simp only [spec_l02Counit.l0, spec_l02Counit.b0, not8, decide_false, Bool.false_eq_true, if_false, spec_l02Counit.a0_0, h0]
    rw [Int.tmod_eq_emod_of_nonneg sm.1]

theorem impl_counit (h : Shp c0 c1 n) (K : Int → Option ρ) {f v : Nat → Int} (hf : f 0 = c0 0) (hv : ∀ i, i < 8 → 0 ≤ v i ∧ v i ≤ 255) : impl_field_dot 5000 K f (fun z => c1 (0 + z)) v = K (sumN (fun i => v i * c1 (0 + i)) 8 % c0 0) := by
  rw [impl_dot _ (by rw [hf]; exact h.p0) (fun z hz => h.un hz) hv, hf]
  congr 2
  refine sumN_congr fun i _ => ?_
  exact Int.mul_comm _ _

theorem fnExactCounitIn_law (K : Bool → Option ρ) (a0 a1 v : Nat → Int) (h0 : ∀ i, IntKind.i64.has (a0 i)) (h1 : ∀ i, IntKind.u8.has (a1 i)) (h2 : ∀ i, IntKind.u8.has (v i)) : laws_FnExactCounitIn 5000 K a0 a1 v = K true := by
  rw [laws_FnExactCounitIn]
  simp only [toCoalgebra_eq, toVector_eq]
  simp only [spec_CounitIn, impl_CounitIn, spec_cocode8 (keepN_byte h1) _ _ (show 1 < 900 by omega), impl_cocode8 (keepN_byte h1) _ _ (show 1 < 900 by omega)]
  by_cases hc : (coB (keepN 2 a0) (keepN 520 a1) && listB (keepN 2 a0 0) (keepN 2 a0 1) (fun z => keepN 8 v (0 + z)) 1) = true
  · simp only [hc, if_true, bne_self_eq_false, Bool.false_eq_true, if_false]
    rw [Bool.and_eq_true] at hc
    obtain ⟨n, h⟩ := coB_shp hc.1 (keepN_byte h1)
    simp only [spec_counit h _ (fun i _ => keepN_byte' h2 i), impl_Coalgebra_field]
    rw [impl_counit h _ fld0 (fun i _ => keepN_byte' h2 i)]
    simp
  · rw [Bool.not_eq_true] at hc
    simp only [hc, Bool.false_eq_true, if_false]
    simp

/-! coproducts -/

/-- the rows of the coproduct, behind i terms, and j rows of the next one -/
def coM (c0 c1 v : Nat → Int) (n i j : Nat) : Nat → Int := fun x => if x < n * 8 then (if x / 8 < j then sumN (fun a => v a * c1 (8 + a * 64 + (x / 8) * 8 + x % 8)) (i + 1) % c0 0 else sumN (fun a => v a * c1 (8 + a * 64 + (x / 8) * 8 + x % 8)) i % c0 0) else 0

theorem coM_zero {v : Nat → Int} : coM c0 c1 v n 0 0 = fun _ => 0 := by
  funext x
  unfold coM
  split
  · rw [if_neg (by omega)]; simp [sumN]
  · rfl

theorem coM_next {v : Nat → Int} {i j : Nat} (hj : j < n) : updN (coM c0 c1 v n i j) (j * 8) 8 (addV (c0 0) (fun z => coM c0 c1 v n i j (j * 8 + z)) (fun z => c1 (8 + i * 64 + j * 8 + z)) (v i)) = coM c0 c1 v n i (j + 1) := by
  funext x
  unfold updN
  by_cases h0 : j * 8 ≤ x ∧ x < j * 8 + 8
  · rw [if_pos h0]
    obtain ⟨z, hz, rfl⟩ : ∃ z, z < 8 ∧ x = j * 8 + z := ⟨x - j * 8, by omega, by omega⟩
    rw [show j * 8 + z - j * 8 = z by omega]
    have e1 : (j * 8 + z) / 8 = j := by omega
    have e2 : (j * 8 + z) % 8 = z := by omega
    have r1 : coM c0 c1 v n i j (j * 8 + z) = sumN (fun a => v a * c1 (8 + a * 64 + j * 8 + z)) i % c0 0 := by
      unfold coM
      rw [if_pos (by omega), e1, e2, if_neg (by omega)]
    have r2 : coM c0 c1 v n i (j + 1) (j * 8 + z) = sumN (fun a => v a * c1 (8 + a * 64 + j * 8 + z)) (i + 1) % c0 0 := by
      unfold coM
      rw [if_pos (by omega), e1, e2, if_pos (by omega)]
    rw [r2]
    unfold addV
    rw [if_pos hz]
    show (coM c0 c1 v n i j (j * 8 + z) + v i * c1 (8 + i * 64 + j * 8 + z)) % c0 0 = _
    rw [r1, Int.emod_add_emod]
    rfl
  · rw [if_neg h0]
    unfold coM
    by_cases h1 : x < n * 8
    · rw [if_pos h1, if_pos h1]
      by_cases h2 : x / 8 < j
      · rw [if_pos h2, if_pos (by omega)]
      · rw [if_neg h2, if_neg (by omega)]
    · rw [if_neg h1, if_neg h1]

theorem coM_row {v : Nat → Int} {i : Nat} : coM c0 c1 v n i n = coM c0 c1 v n (i + 1) 0 := by
  funext x
  unfold coM
  by_cases h1 : x < n * 8
  · rw [if_pos h1, if_pos h1, if_pos (by omega), if_neg (by omega)]
  · rw [if_neg h1, if_neg h1]

theorem coM_in (hp : 0 < c0 0) {v : Nat → Int} {i j q : Nat} : inP (c0 0) (fun z => coM c0 c1 v n i j (q * 8 + z)) := by
  intro z hz
  show 0 ≤ coM c0 c1 v n i j (q * 8 + z) ∧ coM c0 c1 v n i j (q * 8 + z) < c0 0
  unfold coM
  split
  · split
    · exact ⟨Int.emod_nonneg _ (by omega), Int.emod_lt_of_pos _ hp⟩
    · exact ⟨Int.emod_nonneg _ (by omega), Int.emod_lt_of_pos _ hp⟩
  · omega

theorem spec_coproduct (h : Shp c0 c1 n) (K : (Nat → Int) → Option ρ) {v : Nat → Int} (hv : inP (c0 0) v) : spec_l02Coproduct 5000 K c0 c1 v = K (coM c0 c1 v n n 0) := by
  have hn := h.le
  rw [spec_l02Coproduct, spec_l02Coproduct.s]
  refine loop_at (n := n) (fun i => coM c0 c1 v n i 0) coM_zero.symm (fun m i hi => ?_) (fun m => ?_) (by omega)
  · simp only [spec_l02Coproduct.l0, spec_l02Coproduct.b0]
    have h1 : (i : Int) < n := by omega
    have hi2 : (0 : Int) ≤ i ∧ (i : Int) < 8 := by omega
    simp only [h.size, h1, decide_true, if_true]
    refine loop_at (n := n) (fun j => coM c0 c1 v n i j) rfl (fun m' j hj => ?_) (fun m' => ?_) (by omega)
    · simp only [spec_l02Coproduct.l1, spec_l02Coproduct.b1]
      have g1 : (j : Int) < n := by omega
      have hj2 : (0 : Int) ≤ j ∧ (j : Int) < 8 := by omega
      have u := hv i (by omega)
      have p := h.p255
      simp only [h.size, g1, hi2, hj2, decide_true, if_true, and_self, Int.toNat_natCast, Nat.mul_one]
      rw [wrap64_id (x := v i) (by omega) (by omega), spec_add _ h.p0 h.p255 (inP_byte h.p255 (coM_in h.p0)) (fun z hz => h.ent (by omega) (by omega) hz) (by omega) (by omega)]
      simp only [nx (show j < 100000 by omega), coM_next hj]
    · simp only [spec_l02Coproduct.l1, spec_l02Coproduct.b1, h.size, Int.lt_irrefl, decide_false, Bool.false_eq_true, if_false, spec_l02Coproduct.a1_0, nx (show i < 100000 by omega), coM_row]
  · simp only [spec_l02Coproduct.l0, spec_l02Coproduct.b0, h.size, Int.lt_irrefl, decide_false, Bool.false_eq_true, if_false, spec_l02Coproduct.a0_0]

theorem impl_coproduct (h : Shp c0 c1 n) (K : (Nat → Int) → Option ρ) {v : Nat → Int} (hv : inP (c0 0) v) : impl_Coalgebra_coproduct 5000 K v c0 c1 = K (coM c0 c1 v n n 0) := by
  have hn := h.le
  rw [impl_Coalgebra_coproduct, impl_Coalgebra_coproduct.s, impl_Coalgebra_field]
  have f0 := fld0 (a := c0)
  have f1 := (fld1 (a := c0)).trans h.size
  generalize upd (upd (fun _ => 0) 0 (c0 0)) 1 (c0 1) = r at f0 f1
  have e8 : coM c0 c1 v n 8 0 = coM c0 c1 v n n 0 := by
    funext x
    unfold coM
    by_cases h1 : x < n * 8
    · rw [if_pos h1, if_pos h1, if_neg (by omega), if_neg (by omega)]
      rw [sumN_out (n := n) hn fun a ha ha8 => by
        have := h.mul0 a (x / 8) (x % 8) ha8 (by omega) (by omega) (by omega)
        show v a * c1 (8 + a * 64 + x / 8 * 8 + x % 8) = 0
        rw [show 8 + a * 64 + x / 8 * 8 + x % 8 = 8 + (a * 64 + (x / 8 * 8 + x % 8)) by omega, this, Int.mul_zero]]
    · rw [if_neg h1, if_neg h1]
  rw [← e8]
  refine loop_at (n := 8) (fun i => coM c0 c1 v n i 0) coM_zero.symm (fun m i hi => ?_) (fun m => ?_) (by omega)
  · simp only [impl_Coalgebra_coproduct.l0, impl_Coalgebra_coproduct.b0]
    have h1 : (i : Int) < 8 := by omega
    have hi2 : (0 : Int) ≤ i ∧ (i : Int) < 8 := by omega
    simp only [h1, hi2, decide_true, if_true, and_self]
    refine loop_at (n := n) (fun j => coM c0 c1 v n i j) rfl (fun m' j hj => ?_) (fun m' => ?_) (by omega)
    · simp only [impl_Coalgebra_coproduct.l1, impl_Coalgebra_coproduct.b1]
      have g1 : (j : Int) < n := by omega
      have hj2 : (0 : Int) ≤ j ∧ (j : Int) < 8 := by omega
      have u := hv i (by omega)
      have p := h.p255
      simp only [f1, g1, hi2, hj2, decide_true, if_true, and_self, Int.toNat_natCast, Nat.mul_one]
      rw [wrap64_id (x := v i) (by omega) (by omega), impl_plus _ (by rw [f0]; exact h.p0) (by rw [f0]; exact h.p255) (by rw [f0]; exact coM_in h.p0) (fun z hz => h.ent (by omega) (by omega) hz) (by omega) (by omega), f0]
      simp only [nx (show j < 100000 by omega), coM_next hj]
    · simp only [impl_Coalgebra_coproduct.l1, impl_Coalgebra_coproduct.b1, f1, Int.lt_irrefl, decide_false, Bool.false_eq_true, if_false, impl_Coalgebra_coproduct.a1_0, nx (show i < 100000 by omega), coM_row]
  · simp only [impl_Coalgebra_coproduct.l0, impl_Coalgebra_coproduct.b0, not8, decide_false, Bool.false_eq_true, if_false, impl_Coalgebra_coproduct.a0_0]

theorem fnExactCoproductIn_law (K : Bool → Option ρ) (a0 a1 v : Nat → Int) (h0 : ∀ i, IntKind.i64.has (a0 i)) (h1 : ∀ i, IntKind.u8.has (a1 i)) (h2 : ∀ i, IntKind.u8.has (v i)) : laws_FnExactCoproductIn 5000 K a0 a1 v = K true := by
  rw [laws_FnExactCoproductIn]
  simp only [toCoalgebra_eq, toVector_eq]
  simp only [spec_CoproductIn, impl_CoproductIn, spec_cocode8 (keepN_byte h1) _ _ (show 1 < 900 by omega), impl_cocode8 (keepN_byte h1) _ _ (show 1 < 900 by omega)]
  by_cases hc : (coB (keepN 2 a0) (keepN 520 a1) && listB (keepN 2 a0 0) (keepN 2 a0 1) (fun z => keepN 8 v (0 + z)) 1) = true
  · simp only [hc, if_true, bne_self_eq_false, Bool.false_eq_true, if_false]
    rw [Bool.and_eq_true] at hc
    obtain ⟨n, h⟩ := coB_shp hc.1 (keepN_byte h1)
    have hv := one_fst (listB_in hc.2 (fun i hi => one_vec (keepN_byte' h2)) (show 0 < 1 by omega))
    simp only [spec_coproduct h _ hv, impl_coproduct h _ hv, eqLinear_self]
    simp
  · rw [Bool.not_eq_true] at hc
    simp only [hc, Bool.false_eq_true, if_false]
    simp [eqLinear_self]

/-! group-like vectors -/

theorem spec_outer (K : (Nat → Int) → Option ρ) {p : Int} {v w : Nat → Int} (hp : 0 < p) (hp' : p ≤ 255) (hv : ∀ i, i < 8 → 0 ≤ v i ∧ v i ≤ 255) (hw : ∀ i, i < 8 → 0 ≤ w i ∧ w i ≤ 255) : spec_l02Outer 5000 K p v w = K (rowsV (fun j => addV p (fun _ => 0) w (v j)) 8) := by
  rw [spec_l02Outer, spec_l02Outer.s]
  refine loop_at (n := 8) (rowsV (fun j => addV p (fun _ => 0) w (v j))) rowsV_zero.symm (fun m i hi => ?_) (fun m => ?_) (by omega)
  · simp only [spec_l02Outer.l0, spec_l02Outer.b0]
    have h1 : (i : Int) < 8 := by omega
    have hi2 : (0 : Int) ≤ i ∧ (i : Int) < 8 := by omega
    have u := hv i hi
    simp only [h1, hi2, decide_true, if_true, and_self, Int.toNat_natCast, Nat.mul_one]
    rw [wrap64_id (x := v i) (by omega) (by omega), spec_add _ hp hp' (fun _ _ => by omega) hw (by omega) (by omega)]
    simp only [nx (show i < 100000 by omega)]
    rw [← rowsV_next]
  · simp only [spec_l02Outer.l0, spec_l02Outer.b0, not8, decide_false, Bool.false_eq_true, if_false, spec_l02Outer.a0_0]

theorem impl_pair (K : (Nat → Int) → Option ρ) {f v w : Nat → Int} (hp : 0 < f 0) (hp' : f 0 ≤ 255) (hv : ∀ i, i < 8 → 0 ≤ v i ∧ v i ≤ 255) (hw : ∀ i, i < 8 → 0 ≤ w i ∧ w i ≤ 255) : impl_field_pair 5000 K f v w = K (rowsV (fun j => addV (f 0) (fun _ => 0) w (v j)) 8) := by
  rw [impl_field_pair, impl_field_pair.s]
  refine loop_at (n := 8) (rowsV (fun j => addV (f 0) (fun _ => 0) w (v j))) rowsV_zero.symm (fun m i hi => ?_) (fun m => ?_) (by omega)
  · simp only [impl_field_pair.l0, impl_field_pair.b0, impl_field_times]
    have h1 : (i : Int) < 8 := by omega
    have hi2 : (0 : Int) ≤ i ∧ (i : Int) < 8 := by omega
    have u := hv i hi
    simp only [h1, hi2, decide_true, if_true, and_self, Int.toNat_natCast, Nat.mul_one]
    rw [wrap64_id (x := v i) (by omega) (by omega), impl_plus _ hp hp' (fun _ _ => by omega) hw (by omega) (by omega)]
    simp only [nx (show i < 100000 by omega)]
    rw [← rowsV_next]
  · simp only [impl_field_pair.l0, impl_field_pair.b0, not8, decide_false, Bool.false_eq_true, if_false, impl_field_pair.a0_0]

/-- is a vector group-like? -/
def glB (c0 c1 v : Nat → Int) (n : Nat) : Bool := (sumN (fun i => v i * c1 (0 + i)) 8 % c0 0 == 1) && eqN 64 (coM c0 c1 v n n 0) (rowsV (fun j => addV (c0 0) (fun _ => 0) v (v j)) 8)

theorem spec_group (h : Shp c0 c1 n) (K : Bool → Option ρ) {v : Nat → Int} (hv : inP (c0 0) v) : spec_l02Group 5000 K c0 c1 v = K (glB c0 c1 v n) := by
  have hv' := inP_byte h.p255 hv
  rw [spec_l02Group, spec_counit h _ hv']
  unfold glB
  cases sumN (fun i => v i * c1 (0 + i)) 8 % c0 0 == 1
  · simp
  · simp only [if_true, Bool.true_and]
    rw [spec_coproduct h _ hv, spec_outer _ h.p0 h.p255 hv' hv']

theorem impl_group (h : Shp c0 c1 n) (K : Bool → Option ρ) {v : Nat → Int} (hv : inP (c0 0) v) : impl_Coalgebra_isGroupLike 5000 K v c0 c1 = K (glB c0 c1 v n) := by
  have hv' := inP_byte h.p255 hv
  rw [impl_Coalgebra_isGroupLike, impl_Coalgebra_field, impl_counit h _ fld0 hv']
  unfold glB
  cases sumN (fun i => v i * c1 (0 + i)) 8 % c0 0 == 1
  · simp
  · simp only [if_true, Bool.true_and]
    rw [impl_coproduct h _ hv, impl_pair _ (by rw [fld0]; exact h.p0) (by rw [fld0]; exact h.p255) hv' hv', fld0]

theorem fnExactIsGroupLike_law (K : Bool → Option ρ) (a0 a1 v : Nat → Int) (h0 : ∀ i, IntKind.i64.has (a0 i)) (h1 : ∀ i, IntKind.u8.has (a1 i)) (h2 : ∀ i, IntKind.u8.has (v i)) : laws_FnExactIsGroupLike 5000 K a0 a1 v = K true := by
  rw [laws_FnExactIsGroupLike]
  simp only [toCoalgebra_eq, toVector_eq]
  simp only [spec_IsGroupLike, impl_IsGroupLike, spec_cocode8 (keepN_byte h1) _ _ (show 1 < 900 by omega), impl_cocode8 (keepN_byte h1) _ _ (show 1 < 900 by omega)]
  by_cases hc : (coB (keepN 2 a0) (keepN 520 a1) && listB (keepN 2 a0 0) (keepN 2 a0 1) (fun z => keepN 8 v (0 + z)) 1) = true
  · simp only [hc, if_true, bne_self_eq_false, Bool.false_eq_true, if_false]
    rw [Bool.and_eq_true] at hc
    obtain ⟨n, h⟩ := coB_shp hc.1 (keepN_byte h1)
    have hv := one_fst (listB_in hc.2 (fun i hi => one_vec (keepN_byte' h2)) (show 0 < 1 by omega))
    simp only [spec_group h _ hv, impl_group h _ hv]
    simp
  · rw [Bool.not_eq_true] at hc
    simp only [hc, Bool.false_eq_true, if_false]
    simp

/-! cocommutative ones -/

def ccB (c1 : Nat → Int) : Bool := allN (fun i => allN (fun j => allN (fun k => c1 (8 + i * 64 + j * 8 + k) == c1 (8 + i * 64 + k * 8 + j)) 0 j) 0 8) 0 8

theorem spec_cocomm (hb : ∀ i, i < 520 → 0 ≤ c1 i ∧ c1 i ≤ 255) (K : Bool → Int → Option ρ) : spec_IsCocommutative 5000 K c0 c1 = if coB c0 c1 = true then K (ccB c1) 0 else K false 1 := by
  rw [spec_IsCocommutative, spec_IsCocommutative.s, spec_isCo hb]
  by_cases ha : coB c0 c1 = true
  · simp only [ha, Bool.not_true, Bool.false_eq_true, if_false, if_true]
    refine (all_at (n := 8) (no := K false 0) (out := K true 0) (fun i => allN (fun j => allN (fun k => c1 (8 + i * 64 + j * 8 + k) == c1 (8 + i * 64 + k * 8 + j)) 0 j) 0 8) (fun m i hi => ?_) (fun m => ?_) (by omega)).trans ?_
    · simp only [spec_IsCocommutative.l0, spec_IsCocommutative.b0]
      have h1 : (i : Int) < 8 := by omega
      simp only [h1, decide_true, if_true]
      refine all_at (n := 8) (fun j => allN (fun k => c1 (8 + i * 64 + j * 8 + k) == c1 (8 + i * 64 + k * 8 + j)) 0 j) (fun m' j hj => ?_) (fun m' => ?_) (by omega)
      · simp only [spec_IsCocommutative.l1, spec_IsCocommutative.b1]
        have g1 : (j : Int) < 8 := by omega
        simp only [g1, decide_true, if_true]
        refine all_at (n := j) (fun k => c1 (8 + i * 64 + j * 8 + k) == c1 (8 + i * 64 + k * 8 + j)) (fun m'' k hk => ?_) (fun m'' => ?_) (by omega)
        · simp only [spec_IsCocommutative.l2, spec_IsCocommutative.b2]
          have f1 : (k : Int) < j := by omega
          have hi2 : (0 : Int) ≤ i ∧ (i : Int) < 8 := by omega
          have hj2 : (0 : Int) ≤ j ∧ (j : Int) < 8 := by omega
          have hk2 : (0 : Int) ≤ k ∧ (k : Int) < 8 := by omega
          simp only [f1, hi2, hj2, hk2, decide_true, if_true, and_self, Int.toNat_natCast, Nat.mul_one, nx (show k < 100000 by omega)]
          by_cases he : c1 (8 + i * 64 + j * 8 + k) = c1 (8 + i * 64 + k * 8 + j)
          · simp [he]
          · simp [he]
        · simp only [spec_IsCocommutative.l2, spec_IsCocommutative.b2, Int.lt_irrefl, decide_false, Bool.false_eq_true, if_false, spec_IsCocommutative.a2_0, nx (show j < 100000 by omega)]
      · simp only [spec_IsCocommutative.l1, spec_IsCocommutative.b1, not8, decide_false, Bool.false_eq_true, if_false, spec_IsCocommutative.a1_0, nx (show i < 100000 by omega)]
    · simp only [spec_IsCocommutative.l0, spec_IsCocommutative.b0, not8, decide_false, Bool.false_eq_true, if_false, spec_IsCocommutative.a0_0]
    · unfold ccB
      split
      · rename_i hu; rw [hu]
      · rename_i hu; rw [Bool.eq_false_iff.2 hu]
  · have ha' : coB c0 c1 = false := by simpa using ha
    simp [ha']

def trTo (g : Nat → Int) (c : Nat) : Nat → Int := fun x => if x < c then g ((x % 8) * 8 + x / 8) else 0

theorem trTo_zero {g : Nat → Int} : trTo g 0 = fun _ => 0 := by funext x; simp [trTo]

theorem trTo_next {g : Nat → Int} {j k : Nat} (hk : k < 8) : upd (trTo g (j * 8 + k)) (j * 8 + k) (g (k * 8 + j)) = trTo g (j * 8 + (k + 1)) := by
  funext x
  unfold upd trTo
  by_cases h : x = j * 8 + k
  · subst h
    rw [if_pos rfl, if_pos (by omega)]
    congr 1; omega
  · rw [if_neg h]
    by_cases h2 : x < j * 8 + k
    · rw [if_pos h2, if_pos (by omega)]
    · rw [if_neg h2, if_neg (by omega)]

theorem impl_transposed_eq (K : (Nat → Int) → Option ρ) (g : Nat → Int) : impl_transposed 5000 K g = K (trTo g 64) := by
  rw [impl_transposed, impl_transposed.s]
  refine loop_at (n := 8) (fun j => trTo g (j * 8)) trTo_zero.symm (fun m j hj => ?_) (fun m => ?_) (by omega)
  · simp only [impl_transposed.l0, impl_transposed.b0]
    have h1 : (j : Int) < 8 := by omega
    have h2 : (0 : Int) ≤ j ∧ (j : Int) < 8 := by omega
    simp only [h1, decide_true, if_true]
    refine loop_at (n := 8) (fun k => trTo g (j * 8 + k)) rfl (fun m' k hk => ?_) (fun m' => ?_) (by omega)
    · simp only [impl_transposed.l1, impl_transposed.b1]
      have g1 : (k : Int) < 8 := by omega
      have g2 : (0 : Int) ≤ k ∧ (k : Int) < 8 := by omega
      simp only [g1, g2, h2, decide_true, if_true, and_self, Int.toNat_natCast, Nat.mul_one, nx (show k < 100000 by omega), trTo_next hk]
    · simp only [impl_transposed.l1, impl_transposed.b1, not8, decide_false, Bool.false_eq_true, if_false, impl_transposed.a1_0, nx (show j < 100000 by omega)]
      rw [show j * 8 + 8 = (j + 1) * 8 by omega]
  · simp only [impl_transposed.l0, impl_transposed.b0, not8, decide_false, Bool.false_eq_true, if_false, impl_transposed.a0_0]

theorem tr_same {i : Nat} : eqN 64 (trTo (fun z => c1 (8 + i * 64 + z)) 64) (fun z => c1 (8 + i * 64 + z)) = allN (fun j => allN (fun k => c1 (8 + i * 64 + j * 8 + k) == c1 (8 + i * 64 + k * 8 + j)) 0 j) 0 8 := by
  rw [Bool.eq_iff_iff]
  simp only [allN_true, eqN, decide_eq_true_eq, beq_iff_eq]
  have key : ∀ j k, j < 8 → k < 8 → trTo (fun z => c1 (8 + i * 64 + z)) 64 (j * 8 + k) = c1 (8 + i * 64 + k * 8 + j) := by
    intro j k hj hk
    unfold trTo
    rw [if_pos (by omega), show (j * 8 + k) % 8 = k by omega, show (j * 8 + k) / 8 = j by omega]
    show c1 (8 + i * 64 + (k * 8 + j)) = _
    congr 1; omega
  constructor
  · intro H j _ hj k _ hk
    have := H (j * 8 + k) (by omega)
    rw [key j k (by omega) (by omega)] at this
    rw [this, Nat.add_assoc _ (j * 8) k]
  · intro H x hx
    obtain ⟨j, k, hj, hk, rfl⟩ : ∃ j k, j < 8 ∧ k < 8 ∧ x = j * 8 + k := ⟨x / 8, x % 8, by omega, by omega, by omega⟩
    rw [key j k hj hk, ← Nat.add_assoc]
    rcases Nat.lt_trichotomy j k with h1 | h1 | h1
    · exact H k (by omega) (by omega) j (by omega) (by omega)
    · subst h1; rfl
    · exact (H j (by omega) (by omega) k (by omega) (by omega)).symm

theorem impl_cocomm (hb : ∀ i, i < 520 → 0 ≤ c1 i ∧ c1 i ≤ 255) (K : Bool → Int → Option ρ) : impl_IsCocommutative 5000 K c0 c1 = if coB c0 c1 = true then K (ccB c1) 0 else K false 1 := by
  rw [impl_IsCocommutative, impl_IsCocommutative.s, impl_cocode0 hb]
  by_cases ha : coB c0 c1 = true
  · simp only [ha, if_true, bne_self_eq_false, Bool.false_eq_true, if_false]
    refine (all_at (n := 8) (no := K false 0) (out := K true 0) (fun i => allN (fun j => allN (fun k => c1 (8 + i * 64 + j * 8 + k) == c1 (8 + i * 64 + k * 8 + j)) 0 j) 0 8) (fun m i hi => ?_) (fun m => ?_) (by omega)).trans ?_
    · simp only [impl_IsCocommutative.l0, impl_IsCocommutative.b0]
      have h1 : (i : Int) < 8 := by omega
      have hi2 : (0 : Int) ≤ i ∧ (i : Int) < 8 := by omega
      simp only [h1, hi2, decide_true, if_true, and_self, impl_transposed_eq, Int.toNat_natCast, nx (show i < 100000 by omega), tr_same]
      cases allN (fun j => allN (fun k => c1 (8 + i * 64 + j * 8 + k) == c1 (8 + i * 64 + k * 8 + j)) 0 j) 0 8 <;> simp
    · simp only [impl_IsCocommutative.l0, impl_IsCocommutative.b0, not8, decide_false, Bool.false_eq_true, if_false, impl_IsCocommutative.a0_0]
    · unfold ccB
      split
      · rename_i hu; rw [hu]
      · rename_i hu; rw [Bool.eq_false_iff.2 hu]
  · have ha' : coB c0 c1 = false := by simpa using ha
    simp [ha']

theorem fnExactIsCocommutative_law (K : Bool → Option ρ) (a0 a1 : Nat → Int) (h0 : ∀ i, IntKind.i64.has (a0 i)) (h1 : ∀ i, IntKind.u8.has (a1 i)) : laws_FnExactIsCocommutative 5000 K a0 a1 = K true := by
  rw [laws_FnExactIsCocommutative]
  simp only [toCoalgebra_eq]
  simp only [spec_cocomm (keepN_byte h1), impl_cocomm (keepN_byte h1)]
  by_cases ha : coB (keepN 2 a0) (keepN 520 a1) = true
  · simp [ha]
  · simp [ha]

/-! dual algebras -/

theorem impl_dualBack_eq (K : (Nat → Int) → Option ρ) (t : Nat → Int) : impl_dualBack 5000 K t = K (turnTo t 512) := by
  rw [impl_dualBack, impl_dualBack.s]
  refine loop_at (n := 8) (fun i => turnTo t (i * 64)) (turnTo_zero.symm) (fun m i hi => ?_) (fun m => ?_) (by omega)
  · simp only [impl_dualBack.l0, impl_dualBack.b0]
    have h1 : (i : Int) < 8 := by omega
    have h2 : (0 : Int) ≤ i ∧ (i : Int) < 8 := by omega
    simp only [h1, decide_true, if_true]
    refine loop_at (n := 8) (fun j => turnTo t (i * 64 + j * 8)) rfl (fun m' j hj => ?_) (fun m' => ?_) (by omega)
    · simp only [impl_dualBack.l1, impl_dualBack.b1]
      have g1 : (j : Int) < 8 := by omega
      have g2 : (0 : Int) ≤ j ∧ (j : Int) < 8 := by omega
      simp only [g1, decide_true, if_true]
      refine loop_at (n := 8) (fun k => turnTo t (i * 64 + j * 8 + k)) rfl (fun m'' k hk => ?_) (fun m'' => ?_) (by omega)
      · simp only [impl_dualBack.l2, impl_dualBack.b2]
        have f1 : (k : Int) < 8 := by omega
        have f2 : (0 : Int) ≤ k ∧ (k : Int) < 8 := by omega
        simp only [f1, f2, g1, g2, h1, h2, decide_true, if_true, and_self, Int.toNat_natCast, Nat.mul_one, nx (show k < 100000 by omega), turnTo_next hi hj hk]
      · simp only [impl_dualBack.l2, impl_dualBack.b2, not8, decide_false, Bool.false_eq_true, if_false, impl_dualBack.a2_0, nx (show j < 100000 by omega)]
        rw [show i * 64 + j * 8 + 8 = i * 64 + (j + 1) * 8 by omega]
    · simp only [impl_dualBack.l1, impl_dualBack.b1, not8, decide_false, Bool.false_eq_true, if_false, impl_dualBack.a1_0, nx (show i < 100000 by omega)]
      rw [show i * 64 + 8 * 8 = (i + 1) * 64 by omega]
  · simp only [impl_dualBack.l0, impl_dualBack.b0, not8, decide_false, Bool.false_eq_true, if_false, impl_dualBack.a0_0]

theorem fnExactDualAlgebra_law (K : Bool → Option ρ) (a0 a1 : Nat → Int) (h0 : ∀ i, IntKind.i64.has (a0 i)) (h1 : ∀ i, IntKind.u8.has (a1 i)) : laws_FnExactDualAlgebra 5000 K a0 a1 = K true := by
  rw [laws_FnExactDualAlgebra]
  simp only [toCoalgebra_eq]
  simp only [spec_DualAlgebra, impl_DualAlgebra, spec_isCo (keepN_byte h1), impl_cocode0 (keepN_byte h1)]
  by_cases hc : coB (keepN 2 a0) (keepN 520 a1) = true
  · simp only [hc, if_true, bne_self_eq_false, Bool.false_eq_true, if_false, Bool.not_true, spec_turned, impl_dualBack_eq, eqAlgebra_self]
  · rw [Bool.not_eq_true] at hc
    simp only [hc, Bool.false_eq_true, if_false]
    simp [eqAlgebra_self]

/-! unit maps -/

theorem maps_spec {a0 a1 : Nat → Int} (hb : ∀ i, i < 520 → 0 ≤ c1 i ∧ c1 i ≤ 255) (hb' : ∀ i, i < 520 → 0 ≤ a1 i ∧ a1 i ≤ 255) (K : Int → Option ρ) :
    spec_l02Maps_n 5000 K c0 c1 a0 a1 = K (if (coB c0 c1 && algB a0 a1) = true then (if c0 0 = a0 0 then 0 else 2) else 1) := by
  rw [spec_l02Maps_n, spec_l02Maps_n.s]
  simp only [spec_isCo hb, spec_is hb']
  cases coB c0 c1
  · simp
  · cases algB a0 a1
    · simp
    · simp only [Bool.not_true, Bool.false_eq_true, if_false, Bool.and_self, if_true]
      show spec_l02Maps_n.a0_0 5000 K c0 a0 = _
      simp only [spec_l02Maps_n.a0_0]
      by_cases hp : c0 0 = a0 0
      · simp [hp]
      · simp [hp]

theorem maps_impl {a0 a1 : Nat → Int} (hb : ∀ i, i < 520 → 0 ≤ c1 i ∧ c1 i ≤ 255) (hb' : ∀ i, i < 520 → 0 ≤ a1 i ∧ a1 i ≤ 255) (K : Int → Option ρ) :
    impl_mapsCode_n 5000 K c0 c1 a0 a1 = K (if (coB c0 c1 && algB a0 a1) = true then (if c0 0 = a0 0 then 0 else 2) else 1) := by
  rw [impl_mapsCode_n, impl_mapsCode_n.s]
  simp only [impl_isCo hb, impl_is hb']
  cases coB c0 c1
  · simp only [Bool.false_eq_true, if_false, Bool.false_and]
    show impl_mapsCode_n.a1_0 5000 K c0 a0 = _
    simp only [impl_mapsCode_n.a1_0, impl_unless_eq, first2]
    simp
  · cases algB a0 a1
    · simp only [if_true, Bool.true_and, Bool.false_eq_true, if_false]
      show impl_mapsCode_n.a0_0 5000 K c0 a0 false = _
      simp only [impl_mapsCode_n.a0_0, impl_unless_eq, first2]
      simp
    · simp only [if_true, Bool.true_and]
      show impl_mapsCode_n.a0_0 5000 K c0 a0 true = _
      simp only [impl_mapsCode_n.a0_0, impl_unless_eq, first2]
      by_cases hp : c0 0 = a0 0
      · simp [hp]
      · simp [hp]

theorem fnExactUnitMap_law (K : Bool → Option ρ) (a0 a1 b0 b1 : Nat → Int) (h0 : ∀ i, IntKind.i64.has (a0 i)) (h1 : ∀ i, IntKind.u8.has (a1 i)) (h2 : ∀ i, IntKind.i64.has (b0 i)) (h3 : ∀ i, IntKind.u8.has (b1 i)) : laws_FnExactUnitMap 5000 K a0 a1 b0 b1 = K true := by
  rw [laws_FnExactUnitMap]
  simp only [toCoalgebra_eq, toAlgebra_eq]
  rw [spec_UnitMap, spec_UnitMap.s, maps_spec (keepN_byte h1) (keepN_byte h3)]
  simp only [impl_UnitMap, impl_UnitMap.s, maps_impl (keepN_byte h1) (keepN_byte h3)]
  by_cases hc : (coB (keepN 2 a0) (keepN 520 a1) && algB (keepN 2 b0) (keepN 520 b1)) = true
  · by_cases hp : keepN 2 a0 0 = keepN 2 b0 0
    · simp only [hc, hp, if_true, bne_self_eq_false, Bool.false_eq_true, if_false]
      rw [Bool.and_eq_true] at hc
      obtain ⟨n, h⟩ := coB_shp hc.1 (keepN_byte h1)
      have hsb : shB (keepN 2 b0) (keepN 520 b1) = true := by
        have := hc.2
        simp only [algB, Bool.and_eq_true] at this
        exact this.1
      obtain ⟨q, g⟩ := shp_of hsb (keepN_byte h3)
      generalize keepN 2 a0 = c0 at h hp ⊢
      generalize keepN 520 a1 = c1 at h ⊢
      generalize keepN 2 b0 = d0 at g hp ⊢
      generalize keepN 520 b1 = d1 at g ⊢
      have hn := h.le
      have L : ∀ Q : (Nat → Int) → Int → Option ρ, spec_UnitMap.l0 5000 Q c0 c1 d1 (fun o => spec_UnitMap.a0_0 5000 Q o) 5000 0 (fun _ => 0) = Q (rowsV (fun i => addV (d0 0) (fun _ => 0) (fun z => d1 (0 + z)) (c1 (0 + i))) n) 0 := by
        intro Q
        refine loop_at (n := n) (rowsV (fun i => addV (d0 0) (fun _ => 0) (fun z => d1 (0 + z)) (c1 (0 + i)))) rowsV_zero.symm (fun m i hi => ?_) (fun m => ?_) (by omega)
        · simp only [spec_UnitMap.l0, spec_UnitMap.b0]
          have e1 : (i : Int) < n := by omega
          have e2 : (0 : Int) ≤ i ∧ (i : Int) < 8 := by omega
          have u := h.un (i := i) (by omega)
          simp only [h.size, e1, e2, decide_true, if_true, and_self, Int.toNat_natCast, Nat.mul_one]
          rw [wrap64_id (x := c1 (0 + i)) (by omega) (by omega), hp, spec_add _ g.p0 g.p255 (fun _ _ => by omega) (fun z hz => g.un hz) (by omega) (by omega)]
          simp only [nx (show i < 100000 by omega)]
          rw [← rowsV_next]
        · simp only [spec_UnitMap.l0, spec_UnitMap.b0, h.size, Int.lt_irrefl, decide_false, Bool.false_eq_true, if_false, spec_UnitMap.a0_0]
      rw [L]
      have M : ∀ Q : (Nat → Int) → Int → Option ρ, impl_UnitMap.l0 5000 Q c1 d0 d1 (fun o => impl_UnitMap.a0_0 5000 Q o) 5000 0 (fun _ => 0) = Q (rowsV (fun i => addV (d0 0) (fun _ => 0) (fun z => d1 (0 + z)) (c1 (0 + i))) 8) 0 := by
        intro Q
        refine loop_at (n := 8) (rowsV (fun i => addV (d0 0) (fun _ => 0) (fun z => d1 (0 + z)) (c1 (0 + i)))) rowsV_zero.symm (fun m i hi => ?_) (fun m => ?_) (by omega)
        · simp only [impl_UnitMap.l0, impl_UnitMap.b0, impl_Algebra_field, impl_field_times]
          have e1 : (i : Int) < 8 := by omega
          have e2 : (0 : Int) ≤ i ∧ (i : Int) < 8 := by omega
          have u := h.un (i := i) (by omega)
          simp only [e1, e2, decide_true, if_true, and_self, Int.toNat_natCast, Nat.mul_one]
          rw [wrap64_id (x := c1 (0 + i)) (by omega) (by omega), impl_plus _ (by rw [fld0]; exact g.p0) (by rw [fld0]; exact g.p255) (by rw [fld0]; have := g.p0; intro z hz; show (0 : Int) ≤ 0 ∧ (0 : Int) < d0 0; omega) (fun z hz => g.un hz) (by omega) (by omega), fld0]
          simp only [nx (show i < 100000 by omega)]
          rw [← rowsV_next]
        · simp only [impl_UnitMap.l0, impl_UnitMap.b0, not8, decide_false, Bool.false_eq_true, if_false, impl_UnitMap.a0_0]
      rw [M, eqLinear_of]
      · simp
      · intro z hz
        unfold rowsV
        rw [if_pos (by omega)]
        by_cases h4 : z < n * 8
        · rw [if_pos h4]
        · rw [if_neg h4]
          have u0 := h.unit0 (z / 8) (by omega) (by omega)
          simp only [u0]
          unfold addV
          rw [if_pos (by omega)]
          simp
    · simp only [hc, hp, if_true, if_false]
      simp [eqLinear_self]
  · rw [Bool.not_eq_true] at hc
    simp only [hc, Bool.false_eq_true, if_false]
    simp [eqLinear_self]

end
end Go.Proofs.Ythecjjnieojjoaa.H
