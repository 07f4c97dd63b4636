/- The laws of the coalgebras: each law's own value is true, for all whole numbers and bytes. -/
import Derived.Test.YthecjjnieojjoaaHV8d
namespace Go.Proofs.Ythecjjnieojjoaa.H
set_option linter.unusedVariables false
set_option linter.unusedSimpArgs false
open Go Go.RowKit Go.Proofs.Ythecjjnieojjoaa.Hy
set_option linter.unusedVariables false
set_option linter.unusedSimpArgs false
set_option maxRecDepth 100000

variable {ρ : Type}

/-! FirstCoFault -/

section
variable {c0 c1 : Nat → Int} {n : Nat}

end

/-! codes -/

section
variable {c0 c1 : Nat → Int} {n : Nat}

theorem impl_cocode0 (hb : ∀ i, i < 520 → 0 ≤ c1 i ∧ c1 i ≤ 255) (K : Int → Option ρ) : impl_Coalgebra_code_n 6000 K c0 c1 = K (if coB c0 c1 = true then 0 else 1) := by
  simp only [impl_Coalgebra_code_n, impl_isCo hb]
  by_cases h : coB c0 c1 = true
  · simp only [h, if_true]
    rfl
  · have h' : coB c0 c1 = false := by simpa using h
    simp [h', impl_unless_eq]

/-! the Counit of a vector -/

theorem spec_counit (h : Shp c0 c1 n) (K : Int → Option ρ) {v : Nat → Int} (hv : ∀ i, i < 8 → 0 ≤ v i ∧ v i ≤ 255) : spec_l02Counit 6000 K c0 c1 v = K (sumN (fun i => v i * c1 (0 + i)) 8 % c0 0) := by
  rw [spec_l02Counit, spec_l02Counit.s]
  refine loop_ta (n := 8) (fun k => sumN (fun i => v i * c1 (0 + i)) k) rfl (fun m k hk => ?_) (fun m => ?_) (by omega)
  · simp only [spec_l02Counit.l0, spec_l02Counit.b0]
    have f1 : (k : Int) < 8 := by omega
    have hk2 : (0 : Int) ≤ k ∧ (k : Int) < 8 := by omega
    simp only [f1, hk2, decide_true, if_true, and_self, Int.toNat_natCast, Nat.mul_one, nx (show k < 100000 by omega)]
    rw [mac (sum_small (by omega) (fun a ha => hv a (by omega)) (fun a ha => h.un (by omega))) (hv k hk) (h.un hk)]
    rfl
  · have sm := sum_small (f := v) (g := fun i => c1 (0 + i)) (n := 8) (by omega) hv (fun a ha => h.un ha)
    have h0 : ¬ c0 0 = 0 := by have := h.p0; omega
    simp only [spec_l02Counit.l0, spec_l02Counit.b0, not8, decide_false, Bool.false_eq_true, if_false, spec_l02Counit.a0_0, h0]
    rw [Int.tmod_eq_emod_of_nonneg sm.1]

theorem impl_counit (h : Shp c0 c1 n) (K : Int → Option ρ) {f v : Nat → Int} (hf : f 0 = c0 0) (hv : ∀ i, i < 8 → 0 ≤ v i ∧ v i ≤ 255) : impl_field_dot 6000 K f (fun z => c1 (0 + z)) v = K (sumN (fun i => v i * c1 (0 + i)) 8 % c0 0) := by
  rw [impl_dot _ (by rw [hf]; exact h.p0) (fun z hz => h.un hz) hv, hf]
  congr 2
  refine sumN_congr fun i _ => ?_
  exact Int.mul_comm _ _

/-! coproducts -/

/-- the rows of the coproduct, behind i terms, and j rows of the next one -/
def coM (c0 c1 v : Nat → Int) (n i j : Nat) : Nat → Int := fun x => if x < n * 8 then (if x / 8 < j then sumN (fun a => v a * c1 (8 + a * 64 + (x / 8) * 8 + x % 8)) (i + 1) % c0 0 else sumN (fun a => v a * c1 (8 + a * 64 + (x / 8) * 8 + x % 8)) i % c0 0) else 0

theorem coM_zero {v : Nat → Int} : coM c0 c1 v n 0 0 = fun _ => 0 := by
  funext x
  unfold coM
  split
  · rw [if_neg (by omega)]; simp [sumN]
  · rfl

theorem coM_next {v : Nat → Int} {i j : Nat} (hj : j < n) : updN (coM c0 c1 v n i j) (j * 8) 8 (addV (c0 0) (fun z => coM c0 c1 v n i j (j * 8 + z)) (fun z => c1 (8 + i * 64 + j * 8 + z)) (v i)) = coM c0 c1 v n i (j + 1) := by
  funext x
  unfold updN
  by_cases h0 : j * 8 ≤ x ∧ x < j * 8 + 8
  · rw [if_pos h0]
    obtain ⟨z, hz, rfl⟩ : ∃ z, z < 8 ∧ x = j * 8 + z := ⟨x - j * 8, by omega, by omega⟩
    rw [show j * 8 + z - j * 8 = z by omega]
    have e1 : (j * 8 + z) / 8 = j := by omega
    have e2 : (j * 8 + z) % 8 = z := by omega
    have r1 : coM c0 c1 v n i j (j * 8 + z) = sumN (fun a => v a * c1 (8 + a * 64 + j * 8 + z)) i % c0 0 := by
      unfold coM
      rw [if_pos (by omega), e1, e2, if_neg (by omega)]
    have r2 : coM c0 c1 v n i (j + 1) (j * 8 + z) = sumN (fun a => v a * c1 (8 + a * 64 + j * 8 + z)) (i + 1) % c0 0 := by
      unfold coM
      rw [if_pos (by omega), e1, e2, if_pos (by omega)]
    rw [r2]
    unfold addV
    rw [if_pos hz]
    show (coM c0 c1 v n i j (j * 8 + z) + v i * c1 (8 + i * 64 + j * 8 + z)) % c0 0 = _
    rw [r1, Int.emod_add_emod]
    rfl
  · rw [if_neg h0]
    unfold coM
    by_cases h1 : x < n * 8
    · rw [if_pos h1, if_pos h1]
      by_cases h2 : x / 8 < j
      · rw [if_pos h2, if_pos (by omega)]
      · rw [if_neg h2, if_neg (by omega)]
    · rw [if_neg h1, if_neg h1]

theorem coM_row {v : Nat → Int} {i : Nat} : coM c0 c1 v n i n = coM c0 c1 v n (i + 1) 0 := by
  funext x
  unfold coM
  by_cases h1 : x < n * 8
  · rw [if_pos h1, if_pos h1, if_pos (by omega), if_neg (by omega)]
  · rw [if_neg h1, if_neg h1]

theorem coM_in (hp : 0 < c0 0) {v : Nat → Int} {i j q : Nat} : inP (c0 0) (fun z => coM c0 c1 v n i j (q * 8 + z)) := by
  intro z hz
  show 0 ≤ coM c0 c1 v n i j (q * 8 + z) ∧ coM c0 c1 v n i j (q * 8 + z) < c0 0
  unfold coM
  split
  · split
    · exact ⟨Int.emod_nonneg _ (by omega), Int.emod_lt_of_pos _ hp⟩
    · exact ⟨Int.emod_nonneg _ (by omega), Int.emod_lt_of_pos _ hp⟩
  · omega

theorem spec_coproduct (h : Shp c0 c1 n) (K : (Nat → Int) → Option ρ) {v : Nat → Int} (hv : inP (c0 0) v) : spec_l02Coproduct 6000 K c0 c1 v = K (coM c0 c1 v n n 0) := by
  have hn := h.le
  rw [spec_l02Coproduct, spec_l02Coproduct.s]
  refine loop_at (n := n) (fun i => coM c0 c1 v n i 0) coM_zero.symm (fun m i hi => ?_) (fun m => ?_) (by omega)
  · simp only [spec_l02Coproduct.l0, spec_l02Coproduct.b0]
    have h1 : (i : Int) < n := by omega
    have hi2 : (0 : Int) ≤ i ∧ (i : Int) < 8 := by omega
    simp only [h.size, h1, decide_true, if_true]
    refine loop_at (n := n) (fun j => coM c0 c1 v n i j) rfl (fun m' j hj => ?_) (fun m' => ?_) (by omega)
    · simp only [spec_l02Coproduct.l1, spec_l02Coproduct.b1]
      have g1 : (j : Int) < n := by omega
      have hj2 : (0 : Int) ≤ j ∧ (j : Int) < 8 := by omega
      have u := hv i (by omega)
      have p := h.p255
      simp only [h.size, g1, hi2, hj2, decide_true, if_true, and_self, Int.toNat_natCast, Nat.mul_one]
      rw [wrap64_id (x := v i) (by omega) (by omega), spec_add _ h.p0 h.p255 (inP_byte h.p255 (coM_in h.p0)) (fun z hz => h.ent (by omega) (by omega) hz) (by omega) (by omega)]
      simp only [nx (show j < 100000 by omega), coM_next hj]
    · simp only [spec_l02Coproduct.l1, spec_l02Coproduct.b1, h.size, Int.lt_irrefl, decide_false, Bool.false_eq_true, if_false, spec_l02Coproduct.a1_0, nx (show i < 100000 by omega), coM_row]
  · simp only [spec_l02Coproduct.l0, spec_l02Coproduct.b0, h.size, Int.lt_irrefl, decide_false, Bool.false_eq_true, if_false, spec_l02Coproduct.a0_0]

theorem impl_coproduct (h : Shp c0 c1 n) (K : (Nat → Int) → Option ρ) {v : Nat → Int} (hv : inP (c0 0) v) : impl_Coalgebra_coproduct 6000 K v c0 c1 = K (coM c0 c1 v n n 0) := by
  have hn := h.le
  rw [impl_Coalgebra_coproduct, impl_Coalgebra_coproduct.s, impl_Coalgebra_field]
  have f0 := fld0 (a := c0)
  have f1 := (fld1 (a := c0)).trans h.size
  generalize upd (upd (fun _ => 0) 0 (c0 0)) 1 (c0 1) = r at f0 f1
  have e8 : coM c0 c1 v n 8 0 = coM c0 c1 v n n 0 := by
    funext x
    unfold coM
    by_cases h1 : x < n * 8
    · rw [if_pos h1, if_pos h1, if_neg (by omega), if_neg (by omega)]
      rw [sumN_out (n := n) hn fun a ha ha8 => by
        have := h.mul0 a (x / 8) (x % 8) ha8 (by omega) (by omega) (by omega)
        show v a * c1 (8 + a * 64 + x / 8 * 8 + x % 8) = 0
        rw [show 8 + a * 64 + x / 8 * 8 + x % 8 = 8 + (a * 64 + (x / 8 * 8 + x % 8)) by omega, this, Int.mul_zero]]
    · rw [if_neg h1, if_neg h1]
  rw [← e8]
  refine loop_at (n := 8) (fun i => coM c0 c1 v n i 0) coM_zero.symm (fun m i hi => ?_) (fun m => ?_) (by omega)
  · simp only [impl_Coalgebra_coproduct.l0, impl_Coalgebra_coproduct.b0]
    have h1 : (i : Int) < 8 := by omega
    have hi2 : (0 : Int) ≤ i ∧ (i : Int) < 8 := by omega
    simp only [h1, hi2, decide_true, if_true, and_self]
    refine loop_at (n := n) (fun j => coM c0 c1 v n i j) rfl (fun m' j hj => ?_) (fun m' => ?_) (by omega)
    · simp only [impl_Coalgebra_coproduct.l1, impl_Coalgebra_coproduct.b1]
      have g1 : (j : Int) < n := by omega
      have hj2 : (0 : Int) ≤ j ∧ (j : Int) < 8 := by omega
      have u := hv i (by omega)
      have p := h.p255
      simp only [f1, g1, hi2, hj2, decide_true, if_true, and_self, Int.toNat_natCast, Nat.mul_one]
      rw [wrap64_id (x := v i) (by omega) (by omega), impl_plus _ (by rw [f0]; exact h.p0) (by rw [f0]; exact h.p255) (by rw [f0]; exact coM_in h.p0) (fun z hz => h.ent (by omega) (by omega) hz) (by omega) (by omega), f0]
      simp only [nx (show j < 100000 by omega), coM_next hj]
    · simp only [impl_Coalgebra_coproduct.l1, impl_Coalgebra_coproduct.b1, f1, Int.lt_irrefl, decide_false, Bool.false_eq_true, if_false, impl_Coalgebra_coproduct.a1_0, nx (show i < 100000 by omega), coM_row]
  · simp only [impl_Coalgebra_coproduct.l0, impl_Coalgebra_coproduct.b0, not8, decide_false, Bool.false_eq_true, if_false, impl_Coalgebra_coproduct.a0_0]

/-! group-like vectors -/

theorem spec_outer (K : (Nat → Int) → Option ρ) {p : Int} {v w : Nat → Int} (hp : 0 < p) (hp' : p ≤ 255) (hv : ∀ i, i < 8 → 0 ≤ v i ∧ v i ≤ 255) (hw : ∀ i, i < 8 → 0 ≤ w i ∧ w i ≤ 255) : spec_l02Outer 6000 K p v w = K (rowsV (fun j => addV p (fun _ => 0) w (v j)) 8) := by
  rw [spec_l02Outer, spec_l02Outer.s]
  refine loop_at (n := 8) (rowsV (fun j => addV p (fun _ => 0) w (v j))) rowsV_zero.symm (fun m i hi => ?_) (fun m => ?_) (by omega)
  · simp only [spec_l02Outer.l0, spec_l02Outer.b0]
    have h1 : (i : Int) < 8 := by omega
    have hi2 : (0 : Int) ≤ i ∧ (i : Int) < 8 := by omega
    have u := hv i hi
    simp only [h1, hi2, decide_true, if_true, and_self, Int.toNat_natCast, Nat.mul_one]
    rw [wrap64_id (x := v i) (by omega) (by omega), spec_add _ hp hp' (fun _ _ => by omega) hw (by omega) (by omega)]
    simp only [nx (show i < 100000 by omega)]
    rw [← rowsV_next]
  · simp only [spec_l02Outer.l0, spec_l02Outer.b0, not8, decide_false, Bool.false_eq_true, if_false, spec_l02Outer.a0_0]

theorem impl_pair (K : (Nat → Int) → Option ρ) {f v w : Nat → Int} (hp : 0 < f 0) (hp' : f 0 ≤ 255) (hv : ∀ i, i < 8 → 0 ≤ v i ∧ v i ≤ 255) (hw : ∀ i, i < 8 → 0 ≤ w i ∧ w i ≤ 255) : impl_field_pair 6000 K f v w = K (rowsV (fun j => addV (f 0) (fun _ => 0) w (v j)) 8) := by
  rw [impl_field_pair, impl_field_pair.s]
  refine loop_at (n := 8) (rowsV (fun j => addV (f 0) (fun _ => 0) w (v j))) rowsV_zero.symm (fun m i hi => ?_) (fun m => ?_) (by omega)
  · simp only [impl_field_pair.l0, impl_field_pair.b0, impl_field_times]
    have h1 : (i : Int) < 8 := by omega
    have hi2 : (0 : Int) ≤ i ∧ (i : Int) < 8 := by omega
    have u := hv i hi
    simp only [h1, hi2, decide_true, if_true, and_self, Int.toNat_natCast, Nat.mul_one]
    rw [wrap64_id (x := v i) (by omega) (by omega), impl_plus _ hp hp' (fun _ _ => by omega) hw (by omega) (by omega)]
    simp only [nx (show i < 100000 by omega)]
    rw [← rowsV_next]
  · simp only [impl_field_pair.l0, impl_field_pair.b0, not8, decide_false, Bool.false_eq_true, if_false, impl_field_pair.a0_0]

/-- is a vector group-like? -/
def glB (c0 c1 v : Nat → Int) (n : Nat) : Bool := (sumN (fun i => v i * c1 (0 + i)) 8 % c0 0 == 1) && eqN 64 (coM c0 c1 v n n 0) (rowsV (fun j => addV (c0 0) (fun _ => 0) v (v j)) 8)

theorem spec_group (h : Shp c0 c1 n) (K : Bool → Option ρ) {v : Nat → Int} (hv : inP (c0 0) v) : spec_l02Group 6000 K c0 c1 v = K (glB c0 c1 v n) := by
  have hv' := inP_byte h.p255 hv
  rw [spec_l02Group, spec_counit h _ hv']
  unfold glB
  cases sumN (fun i => v i * c1 (0 + i)) 8 % c0 0 == 1
  · simp
  · simp only [if_true, Bool.true_and]
    rw [spec_coproduct h _ hv, spec_outer _ h.p0 h.p255 hv' hv']

theorem impl_group (h : Shp c0 c1 n) (K : Bool → Option ρ) {v : Nat → Int} (hv : inP (c0 0) v) : impl_Coalgebra_isGroupLike 6000 K v c0 c1 = K (glB c0 c1 v n) := by
  have hv' := inP_byte h.p255 hv
  rw [impl_Coalgebra_isGroupLike, impl_Coalgebra_field, impl_counit h _ fld0 hv']
  unfold glB
  cases sumN (fun i => v i * c1 (0 + i)) 8 % c0 0 == 1
  · simp
  · simp only [if_true, Bool.true_and]
    rw [impl_coproduct h _ hv, impl_pair _ (by rw [fld0]; exact h.p0) (by rw [fld0]; exact h.p255) hv' hv', fld0]

/-! cocommutative ones -/

/-! dual algebras -/

/-! unit maps -/

end
end Go.Proofs.Ythecjjnieojjoaa.H
