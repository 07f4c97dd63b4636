/- The laws of the coalgebras: each law's own value is true, for all whole numbers and bytes. -/
import Derived.Test.YthecjjnieojjoaaHV8d
namespace Go.Proofs.Ythecjjnieojjoaa.H
set_option linter.unusedVariables false
set_option linter.unusedSimpArgs false
open Go Go.RowKit Go.Proofs.Ythecjjnieojjoaa.Hy
set_option linter.unusedVariables false
set_option linter.unusedSimpArgs false
set_option maxRecDepth 100000

variable {ρ : Type}

/-! FirstCoFault -/

section
variable {c0 c1 : Nat → Int} {n : Nat}

end

/-! codes -/

section
variable {c0 c1 : Nat → Int} {n : Nat}

theorem spec_cocode8 (hb : ∀ i, i < 520 → 0 ≤ c1 i ∧ c1 i ≤ 255) (K : Int → Option ρ) (g : Nat → Int) {m c w : Nat} (hm : m < 900) : spec_l02Code_s 6000 K c0 c1 m c w g = K (if (coB c0 c1 && listB (c0 0) (c0 1) g m) = true then 0 else 1) := by
  simp only [spec_l02Code_s, spec_l02Code_s.s, spec_isCo hb]
  cases coB c0 c1
  · simp
  · simp only [Bool.not_true, Bool.false_eq_true, if_false, Bool.true_and]
    refine (all_at (n := m) (fun i => vecB (c0 0) (c0 1) (fun z => g (i * 8 + z))) (no := K 1) (out := K 0) (fun k i hi => ?_) (fun k => ?_) (by omega)).trans ?_
    · simp only [spec_l02Code_s.l0, spec_l02Code_s.b0, spec_vector]
      have h1 : (i : Int) < m := by omega
      have h2 : (0 : Int) ≤ i ∧ (i : Int) < m := by omega
      simp only [h1, h2, decide_true, if_true, and_self, Int.toNat_natCast, Nat.zero_add, nx (show i < 100000 by omega)]
      cases vecB (c0 0) (c0 1) (fun z => g (i * 8 + z)) <;> simp
    · simp only [spec_l02Code_s.l0, spec_l02Code_s.b0, Int.lt_irrefl, decide_false, Bool.false_eq_true, if_false, spec_l02Code_s.a0_0]
    · unfold listB
      split <;> rfl

theorem impl_coindex (K : Int → Option ρ) (g g4 g5 : Nat → Int) (hs : sizB (g4 0) (g4 1) = true) {m c d : Nat} (hm : m < 900) :
    slices_IndexFunc_sf 6000 K m c d g g4 g5 = optK (firstN (fun i => if vecB (g4 0) (g4 1) (fun z => g (i * 8 + z)) = true then none else some i) 0 m) (fun i => K (i : Int)) (K (-1)) := by
  rw [slices_IndexFunc_sf, slices_IndexFunc_sf.s]
  refine find_at (n := m) (fun i => if vecB (g4 0) (g4 1) (fun z => g (i * 8 + z)) = true then none else some i) (fun i => K (i : Int)) (fun k i hi => ?_) (fun k => ?_) (by omega)
  · simp only [slices_IndexFunc_sf.l0, slices_IndexFunc_sf.b0, impl_Coalgebra_has_c1, impl_isVector, hs, Bool.true_and]
    have h1 : (i : Int) < m := by omega
    have h2 : (0 : Int) ≤ i ∧ (i : Int) < m := by omega
    simp only [h1, h2, decide_true, if_true, and_self, Int.toNat_natCast, Nat.zero_add, nx (show i < 100000 by omega)]
    cases vecB (g4 0) (g4 1) (fun z => g (i * 8 + z)) <;> simp [optK]
  · simp only [slices_IndexFunc_sf.l0, slices_IndexFunc_sf.b0, Int.lt_irrefl, decide_false, Bool.false_eq_true, if_false, slices_IndexFunc_sf.a0_0]

theorem impl_cohas (K : Bool → Option ρ) (g a0 a1 : Nat → Int) (hs : sizB (a0 0) (a0 1) = true) {m c d : Nat} (hm : m < 900) : impl_Coalgebra_has_s 6000 K m c a0 a1 d g = K (listB (a0 0) (a0 1) g m) := by
  simp only [impl_Coalgebra_has_s, slices_ContainsFunc_sf]
  rw [impl_coindex _ _ _ _ hs hm]
  simp only [Nat.zero_add]
  unfold listB
  rw [← firstN_none (f := fun i => i)]
  cases firstN (fun i => if vecB (a0 0) (a0 1) (fun z => g (i * 8 + z)) = true then none else some i) 0 m with
  | none => simp [optK]
  | some i => simp [optK]

theorem coB_siz (h : coB c0 c1 = true) : sizB (c0 0) (c0 1) = true := by
  simp only [coB, shB, Bool.and_eq_true] at h
  exact h.1.1

theorem impl_cocode8 (hb : ∀ i, i < 520 → 0 ≤ c1 i ∧ c1 i ≤ 255) (K : Int → Option ρ) (g : Nat → Int) {m c w : Nat} (hm : m < 900) : impl_Coalgebra_code_s 6000 K m c c0 c1 w g = K (if (coB c0 c1 && listB (c0 0) (c0 1) g m) = true then 0 else 1) := by
  simp only [impl_Coalgebra_code_s, impl_isCo hb]
  by_cases h : coB c0 c1 = true
  · simp only [h, if_true, Bool.true_and]
    rw [impl_cohas _ _ _ _ (coB_siz h) hm, impl_unless_eq]
    simp only [Nat.zero_add]
  · have h' : coB c0 c1 = false := by simpa using h
    simp [h', impl_unless_eq]

/-! the Counit of a vector -/

/-! coproducts -/

/-- the rows of the coproduct, behind i terms, and j rows of the next one -/
def coM (c0 c1 v : Nat → Int) (n i j : Nat) : Nat → Int := fun x => if x < n * 8 then (if x / 8 < j then sumN (fun a => v a * c1 (8 + a * 64 + (x / 8) * 8 + x % 8)) (i + 1) % c0 0 else sumN (fun a => v a * c1 (8 + a * 64 + (x / 8) * 8 + x % 8)) i % c0 0) else 0

theorem coM_zero {v : Nat → Int} : coM c0 c1 v n 0 0 = fun _ => 0 := by
  funext x
  unfold coM
  split
  · rw [if_neg (by omega)]; simp [sumN]
  · rfl

theorem coM_next {v : Nat → Int} {i j : Nat} (hj : j < n) : updN (coM c0 c1 v n i j) (j * 8) 8 (addV (c0 0) (fun z => coM c0 c1 v n i j (j * 8 + z)) (fun z => c1 (8 + i * 64 + j * 8 + z)) (v i)) = coM c0 c1 v n i (j + 1) := by
  funext x
  unfold updN
  by_cases h0 : j * 8 ≤ x ∧ x < j * 8 + 8
  · rw [if_pos h0]
    obtain ⟨z, hz, rfl⟩ : ∃ z, z < 8 ∧ x = j * 8 + z := ⟨x - j * 8, by omega, by omega⟩
    rw [show j * 8 + z - j * 8 = z by omega]
    have e1 : (j * 8 + z) / 8 = j := by omega
    have e2 : (j * 8 + z) % 8 = z := by omega
    have r1 : coM c0 c1 v n i j (j * 8 + z) = sumN (fun a => v a * c1 (8 + a * 64 + j * 8 + z)) i % c0 0 := by
      unfold coM
      rw [if_pos (by omega), e1, e2, if_neg (by omega)]
    have r2 : coM c0 c1 v n i (j + 1) (j * 8 + z) = sumN (fun a => v a * c1 (8 + a * 64 + j * 8 + z)) (i + 1) % c0 0 := by
      unfold coM
      rw [if_pos (by omega), e1, e2, if_pos (by omega)]
    rw [r2]
    unfold addV
    rw [if_pos hz]
    show (coM c0 c1 v n i j (j * 8 + z) + v i * c1 (8 + i * 64 + j * 8 + z)) % c0 0 = _
    rw [r1, Int.emod_add_emod]
    rfl
  · rw [if_neg h0]
    unfold coM
    by_cases h1 : x < n * 8
    · rw [if_pos h1, if_pos h1]
      by_cases h2 : x / 8 < j
      · rw [if_pos h2, if_pos (by omega)]
      · rw [if_neg h2, if_neg (by omega)]
    · rw [if_neg h1, if_neg h1]

theorem coM_row {v : Nat → Int} {i : Nat} : coM c0 c1 v n i n = coM c0 c1 v n (i + 1) 0 := by
  funext x
  unfold coM
  by_cases h1 : x < n * 8
  · rw [if_pos h1, if_pos h1, if_pos (by omega), if_neg (by omega)]
  · rw [if_neg h1, if_neg h1]

theorem coM_in (hp : 0 < c0 0) {v : Nat → Int} {i j q : Nat} : inP (c0 0) (fun z => coM c0 c1 v n i j (q * 8 + z)) := by
  intro z hz
  show 0 ≤ coM c0 c1 v n i j (q * 8 + z) ∧ coM c0 c1 v n i j (q * 8 + z) < c0 0
  unfold coM
  split
  · split
    · exact ⟨Int.emod_nonneg _ (by omega), Int.emod_lt_of_pos _ hp⟩
    · exact ⟨Int.emod_nonneg _ (by omega), Int.emod_lt_of_pos _ hp⟩
  · omega

theorem spec_coproduct (h : Shp c0 c1 n) (K : (Nat → Int) → Option ρ) {v : Nat → Int} (hv : inP (c0 0) v) : spec_l02Coproduct 6000 K c0 c1 v = K (coM c0 c1 v n n 0) := by
  have hn := h.le
  rw [spec_l02Coproduct, spec_l02Coproduct.s]
  refine loop_at (n := n) (fun i => coM c0 c1 v n i 0) coM_zero.symm (fun m i hi => ?_) (fun m => ?_) (by omega)
  · simp only [spec_l02Coproduct.l0, spec_l02Coproduct.b0]
    have h1 : (i : Int) < n := by omega
    have hi2 : (0 : Int) ≤ i ∧ (i : Int) < 8 := by omega
    simp only [h.size, h1, decide_true, if_true]
    refine loop_at (n := n) (fun j => coM c0 c1 v n i j) rfl (fun m' j hj => ?_) (fun m' => ?_) (by omega)
    · simp only [spec_l02Coproduct.l1, spec_l02Coproduct.b1]
      have g1 : (j : Int) < n := by omega
      have hj2 : (0 : Int) ≤ j ∧ (j : Int) < 8 := by omega
      have u := hv i (by omega)
      have p := h.p255
      simp only [h.size, g1, hi2, hj2, decide_true, if_true, and_self, Int.toNat_natCast, Nat.mul_one]
      rw [wrap64_id (x := v i) (by omega) (by omega), spec_add _ h.p0 h.p255 (inP_byte h.p255 (coM_in h.p0)) (fun z hz => h.ent (by omega) (by omega) hz) (by omega) (by omega)]
      simp only [nx (show j < 100000 by omega), coM_next hj]
    · simp only [spec_l02Coproduct.l1, spec_l02Coproduct.b1, h.size, Int.lt_irrefl, decide_false, Bool.false_eq_true, if_false, spec_l02Coproduct.a1_0, nx (show i < 100000 by omega), coM_row]
  · simp only [spec_l02Coproduct.l0, spec_l02Coproduct.b0, h.size, Int.lt_irrefl, decide_false, Bool.false_eq_true, if_false, spec_l02Coproduct.a0_0]

theorem impl_coproduct (h : Shp c0 c1 n) (K : (Nat → Int) → Option ρ) {v : Nat → Int} (hv : inP (c0 0) v) : impl_Coalgebra_coproduct 6000 K v c0 c1 = K (coM c0 c1 v n n 0) := by
  have hn := h.le
  rw [impl_Coalgebra_coproduct, impl_Coalgebra_coproduct.s, impl_Coalgebra_field]
  have f0 := fld0 (a := c0)
  have f1 := (fld1 (a := c0)).trans h.size
  generalize upd (upd (fun _ => 0) 0 (c0 0)) 1 (c0 1) = r at f0 f1
  have e8 : coM c0 c1 v n 8 0 = coM c0 c1 v n n 0 := by
    funext x
    unfold coM
    by_cases h1 : x < n * 8
    · rw [if_pos h1, if_pos h1, if_neg (by omega), if_neg (by omega)]
      rw [sumN_out (n := n) hn fun a ha ha8 => by
        have := h.mul0 a (x / 8) (x % 8) ha8 (by omega) (by omega) (by omega)
        show v a * c1 (8 + a * 64 + x / 8 * 8 + x % 8) = 0
        rw [show 8 + a * 64 + x / 8 * 8 + x % 8 = 8 + (a * 64 + (x / 8 * 8 + x % 8)) by omega, this, Int.mul_zero]]
    · rw [if_neg h1, if_neg h1]
  rw [← e8]
  refine loop_at (n := 8) (fun i => coM c0 c1 v n i 0) coM_zero.symm (fun m i hi => ?_) (fun m => ?_) (by omega)
  · simp only [impl_Coalgebra_coproduct.l0, impl_Coalgebra_coproduct.b0]
    have h1 : (i : Int) < 8 := by omega
    have hi2 : (0 : Int) ≤ i ∧ (i : Int) < 8 := by omega
    simp only [h1, hi2, decide_true, if_true, and_self]
    refine loop_at (n := n) (fun j => coM c0 c1 v n i j) rfl (fun m' j hj => ?_) (fun m' => ?_) (by omega)
    · simp only [impl_Coalgebra_coproduct.l1, impl_Coalgebra_coproduct.b1]
      have g1 : (j : Int) < n := by omega
      have hj2 : (0 : Int) ≤ j ∧ (j : Int) < 8 := by omega
      have u := hv i (by omega)
      have p := h.p255
      simp only [f1, g1, hi2, hj2, decide_true, if_true, and_self, Int.toNat_natCast, Nat.mul_one]
      rw [wrap64_id (x := v i) (by omega) (by omega), impl_plus _ (by rw [f0]; exact h.p0) (by rw [f0]; exact h.p255) (by rw [f0]; exact coM_in h.p0) (fun z hz => h.ent (by omega) (by omega) hz) (by omega) (by omega), f0]
      simp only [nx (show j < 100000 by omega), coM_next hj]
    · simp only [impl_Coalgebra_coproduct.l1, impl_Coalgebra_coproduct.b1, f1, Int.lt_irrefl, decide_false, Bool.false_eq_true, if_false, impl_Coalgebra_coproduct.a1_0, nx (show i < 100000 by omega), coM_row]
  · simp only [impl_Coalgebra_coproduct.l0, impl_Coalgebra_coproduct.b0, not8, decide_false, Bool.false_eq_true, if_false, impl_Coalgebra_coproduct.a0_0]

/-! group-like vectors -/

/-! cocommutative ones -/

def trTo (g : Nat → Int) (c : Nat) : Nat → Int := fun x => if x < c then g ((x % 8) * 8 + x / 8) else 0

theorem trTo_zero {g : Nat → Int} : trTo g 0 = fun _ => 0 := by funext x; simp [trTo]

theorem trTo_next {g : Nat → Int} {j k : Nat} (hk : k < 8) : upd (trTo g (j * 8 + k)) (j * 8 + k) (g (k * 8 + j)) = trTo g (j * 8 + (k + 1)) := by
  funext x
  unfold upd trTo
  by_cases h : x = j * 8 + k
  · subst h
    rw [if_pos rfl, if_pos (by omega)]
    congr 1; omega
  · rw [if_neg h]
    by_cases h2 : x < j * 8 + k
    · rw [if_pos h2, if_pos (by omega)]
    · rw [if_neg h2, if_neg (by omega)]

theorem impl_transposed_eq (K : (Nat → Int) → Option ρ) (g : Nat → Int) : impl_transposed 6000 K g = K (trTo g 64) := by
  rw [impl_transposed, impl_transposed.s]
  refine loop_at (n := 8) (fun j => trTo g (j * 8)) trTo_zero.symm (fun m j hj => ?_) (fun m => ?_) (by omega)
  · simp only [impl_transposed.l0, impl_transposed.b0]
    have h1 : (j : Int) < 8 := by omega
    have h2 : (0 : Int) ≤ j ∧ (j : Int) < 8 := by omega
    simp only [h1, decide_true, if_true]
    refine loop_at (n := 8) (fun k => trTo g (j * 8 + k)) rfl (fun m' k hk => ?_) (fun m' => ?_) (by omega)
    · simp only [impl_transposed.l1, impl_transposed.b1]
      have g1 : (k : Int) < 8 := by omega
      have g2 : (0 : Int) ≤ k ∧ (k : Int) < 8 := by omega
      simp only [g1, g2, h2, decide_true, if_true, and_self, Int.toNat_natCast, Nat.mul_one, nx (show k < 100000 by omega), trTo_next hk]
    · simp only [impl_transposed.l1, impl_transposed.b1, not8, decide_false, Bool.false_eq_true, if_false, impl_transposed.a1_0, nx (show j < 100000 by omega)]
      rw [show j * 8 + 8 = (j + 1) * 8 by omega]
  · simp only [impl_transposed.l0, impl_transposed.b0, not8, decide_false, Bool.false_eq_true, if_false, impl_transposed.a0_0]

/-! dual algebras -/

/-! unit maps -/

end
end Go.Proofs.Ythecjjnieojjoaa.H
