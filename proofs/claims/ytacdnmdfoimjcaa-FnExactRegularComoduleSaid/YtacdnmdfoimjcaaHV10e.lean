/- Hopf tables: their shape, products, coproducts and counits, told alike by the reference and the program. -/
import Derived.Test.YtacdnmdfoimjcaaHV8e
namespace Go.Proofs.Ytacdnmdfoimjcaa.H
set_option linter.unusedVariables false
set_option linter.unusedSimpArgs false
open Go Go.RowKit Go.Proofs.Ytacdnmdfoimjcaa.Hx
set_option linter.unusedVariables false
set_option linter.unusedSimpArgs false
set_option maxRecDepth 100000

variable {ρ : Type}

theorem keepN_1104 {a : Nat → Int} : updN (updN (updN (updN (updN (fun _ => 0) 0 8 (keepN 8 fun z => a (0 + z))) 8 512 (keepN 512 fun z => a (8 + z))) 520 8 (keepN 8 fun z => a (520 + z))) 528 512 (keepN 512 fun z => a (528 + z))) 1040 64 (keepN 64 fun z => a (1040 + z)) = keepN 1104 a := by
  rw [show (fun _ => 0 : Nat → Int) = keepN 0 a from keepN_zero.symm, keepN_updN (fun z hz => by simp [keepN, hz]), keepN_updN (fun z hz => by simp [keepN, hz]), keepN_updN (fun z hz => by simp [keepN, hz]), keepN_updN (fun z hz => by simp [keepN, hz]), keepN_updN (fun z hz => by simp [keepN, hz])]

theorem toHopf_eq (K : (Nat → Int) → (Nat → Int) → Option ρ) (a0 a1 : Nat → Int) : laws_toHopf 5000 K a0 a1 = K (keepN 2 a0) (keepN 1104 a1) := by
  simp only [laws_toHopf, toVector_eq, toTable_eq, toLinear_eq]
  rw [keepN_two, keepN_1104]

theorem part_alg {h : Nat → Int} : updN (updN (fun _ => 0) 0 8 (fun z => h (0 + z))) 8 512 (fun z => h (8 + z)) = keepN 520 h := by
  rw [show (fun _ => 0 : Nat → Int) = keepN 0 h from keepN_zero.symm, keepN_updN (fun z hz => rfl), keepN_updN (fun z hz => rfl)]

theorem part_co {h : Nat → Int} : updN (updN (fun _ => 0) 0 8 (fun z => h (520 + z))) 8 512 (fun z => h (528 + z)) = keepN 520 (fun z => h (520 + z)) := by
  rw [show (fun _ => 0 : Nat → Int) = keepN 0 (fun z => h (520 + z)) from keepN_zero.symm, keepN_updN (fun z hz => by simp), keepN_updN (fun z hz => by show h (528 + z) = h (520 + (8 + z)); congr 1; omega)]

theorem spec_alg (K : (Nat → Int) → (Nat → Int) → Option ρ) (h0 h1 : Nat → Int) : spec_l03Algebra 5000 K h0 h1 = K (keepN 2 h0) (keepN 520 h1) := by
  rw [spec_l03Algebra, keepN_two, part_alg]
theorem impl_alg (K : (Nat → Int) → (Nat → Int) → Option ρ) (h0 h1 : Nat → Int) : impl_Hopf_algebra 5000 K h0 h1 = K (keepN 2 h0) (keepN 520 h1) := by
  rw [impl_Hopf_algebra, keepN_two, part_alg]
theorem spec_co (K : (Nat → Int) → (Nat → Int) → Option ρ) (h0 h1 : Nat → Int) : spec_l03Coalgebra 5000 K h0 h1 = K (keepN 2 h0) (keepN 520 (fun z => h1 (520 + z))) := by
  rw [spec_l03Coalgebra, keepN_two, part_co]
theorem impl_co (K : (Nat → Int) → (Nat → Int) → Option ρ) (h0 h1 : Nat → Int) : impl_Hopf_coalgebra 5000 K h0 h1 = K (keepN 2 h0) (keepN 520 (fun z => h1 (520 + z))) := by
  rw [impl_Hopf_coalgebra, keepN_two, part_co]

/-! the shape -/

theorem vecB_congr {p n : Int} {v w : Nat → Int} (h : ∀ z, z < 8 → v z = w z) : vecB p n v = vecB p n w := by
  unfold vecB
  refine allN_congr fun i _ hi => ?_
  rw [h i (by omega)]

theorem eqN_cg {m : Nat} {v w u : Nat → Int} (h : ∀ z, z < m → v z = w z) : eqN m v u = eqN m w u := eqN_congr h fun _ _ => rfl

theorem linB_congr {p n : Int} {v w : Nat → Int} (h : ∀ z, z < 64 → v z = w z) : linB p n v = linB p n w := by
  unfold linB
  refine allN_congr fun i _ hi => ?_
  rw [vecB_congr (v := fun z => v (i * 8 + z)) (w := fun z => w (i * 8 + z)) fun z hz => h _ (by omega), eqN_cg (v := fun z => v (i * 8 + z)) (w := fun z => w (i * 8 + z)) fun z hz => h _ (by omega)]

theorem tabB_congr {p n : Int} {v w : Nat → Int} (h : ∀ z, z < 512 → v z = w z) : tabB p n v = tabB p n w := by
  unfold tabB
  refine allN_congr fun i _ hi => ?_
  rw [linB_congr (v := fun z => v (i * 64 + z)) (w := fun z => w (i * 64 + z)) fun z hz => h _ (by omega), eqN_cg (v := fun z => v (i * 64 + z)) (w := fun z => w (i * 64 + z)) fun z hz => h _ (by omega)]

theorem shB_keep {h0 h1 : Nat → Int} : shB (keepN 2 h0) (keepN 520 h1) = shB h0 h1 := by
  unfold shB
  rw [vecB_congr (v := fun z => keepN 520 h1 (0 + z)) (w := fun z => h1 (0 + z)) fun z hz => keepN_at (by omega), tabB_congr (v := fun z => keepN 520 h1 (8 + z)) (w := fun z => h1 (8 + z)) fun z hz => keepN_at (by omega)]
  rfl

def shH (h0 h1 : Nat → Int) : Bool := shB h0 h1 && (shB h0 (fun z => h1 (520 + z)) && linB (h0 0) (h0 1) (fun z => h1 (1040 + z)))

theorem shB_siz {h0 h1 : Nat → Int} (h : shB h0 h1 = true) : sizB (h0 0) (h0 1) = true := by
  simp only [shB, Bool.and_eq_true] at h
  exact h.1

theorem impl_shapeH (K : Bool → Option ρ) (h0 h1 : Nat → Int) : impl_Hopf_isShaped 5000 K h0 h1 = K (shH h0 h1) := by
  simp only [impl_Hopf_isShaped, impl_alg, impl_co, impl_shape, impl_shape2, shB_keep, shH]
  by_cases hs : shB h0 h1 = true
  · simp only [hs, if_true, Bool.true_and, impl_linear _ _ _ _ (shB_siz hs)]
    cases shB h0 (fun z => h1 (520 + z)) <;> simp
  · rw [Bool.not_eq_true] at hs
    simp [hs]

theorem spec_shapeH (K : Bool → Option ρ) (h0 h1 : Nat → Int) : spec_l03Shape 5000 K h0 h1 = K (shH h0 h1) := by
  simp only [spec_l03Shape, spec_alg, spec_shape, spec_vector, spec_table, spec_linear, shB_keep, shH]
  by_cases hs : shB h0 h1 = true
  · have e : shB h0 (fun z => h1 (520 + z)) = (vecB (h0 0) (h0 1) (fun z => h1 (520 + z)) && tabB (h0 0) (h0 1) (fun z => h1 (528 + z))) := by
      unfold shB
      rw [shB_siz hs, Bool.true_and, vecB_congr (v := fun z => h1 (520 + (0 + z))) (w := fun z => h1 (520 + z)) fun z hz => by simp, tabB_congr (v := fun z => h1 (520 + (8 + z))) (w := fun z => h1 (528 + z)) fun z hz => by congr 1; omega]
    simp only [hs, if_true, Bool.true_and, e]
    cases vecB (h0 0) (h0 1) (fun z => h1 (520 + z))
    · simp
    · cases tabB (h0 0) (h0 1) (fun z => h1 (528 + z)) <;> simp
  · rw [Bool.not_eq_true] at hs
    simp [hs]

/-- what the shape of a Hopf table says -/
structure HS (h0 h1 : Nat → Int) (n : Nat) : Prop where
  al : Shp h0 h1 n
  co : Shp h0 (fun z => h1 (520 + z)) n
  an : ∀ i, i < 8 → inP (h0 0) (fun z => h1 (1040 + (i * 8 + z)))
  an0 : ∀ i j, i < 8 → j < 8 → n ≤ i → h1 (1040 + (i * 8 + j)) = 0

theorem hs_of {h0 h1 : Nat → Int} (h : shH h0 h1 = true) (hb : ∀ i, i < 1104 → 0 ≤ h1 i ∧ h1 i ≤ 255) : ∃ n, HS h0 h1 n := by
  simp only [shH, Bool.and_eq_true] at h
  obtain ⟨s1, s2, s3⟩ := h
  obtain ⟨n, a⟩ := shp_of s1 fun i hi => hb i (by omega)
  obtain ⟨m, b⟩ := shp_of s2 fun i hi => hb (520 + i) (by omega)
  have e : m = n := by have := a.size; have := b.size; omega
  subst e
  refine ⟨m, a, b, fun i hi => vecB_in (linB_at s3 hi).1 fun z hz => hb (1040 + (i * 8 + z)) (by omega), fun i j hi hj hni => (linB_at s3 hi).2 (by rw [a.size]; omega) j hj⟩

section
variable {h0 h1 : Nat → Int} {n : Nat}

theorem HS.cent (h : HS h0 h1 n) {i j k : Nat} (hi : i < 8) (hj : j < 8) (hk : k < 8) : 0 ≤ h1 (528 + i * 64 + j * 8 + k) ∧ h1 (528 + i * 64 + j * 8 + k) ≤ 255 := by
  have := h.co.ent hi hj hk
  rw [show 528 + i * 64 + j * 8 + k = 520 + (8 + i * 64 + j * 8 + k) by omega]
  exact this

theorem HS.cou (h : HS h0 h1 n) {i : Nat} (hi : i < 8) : 0 ≤ h1 (520 + i) ∧ h1 (520 + i) ≤ 255 := by
  have := h.co.un hi
  rw [Nat.zero_add] at this
  exact this

/-! products -/

theorem hopf_product (K : (Nat → Int) → Option ρ) {a0 a1 v w : Nat → Int} {n : Nat} (ha : a0 1 = n) (hp : 0 < a0 0) (hp' : a0 0 ≤ 255) (hn : n ≤ 8) (hv : inP (a0 0) v) (hw : inP (a0 0) w) (hm : ∀ i j, i < n → j < n → inP (a0 0) (fun z => a1 (8 + i * 64 + (j * 8 + z)))) :
    impl_Hopf_product 5000 K v w a0 a1 = K (timesV (a0 0) n (fun z => a1 (8 + z)) v w) := by
  simp only [impl_Hopf_product, impl_Hopf_product.s, impl_Hopf_field]
  have f0 : upd (upd (fun _ => 0) 0 (a0 0)) 1 (a0 1) 0 = a0 0 := by simp [upd]
  have f1 : upd (upd (fun _ => 0) 0 (a0 0)) 1 (a0 1) 1 = (n : Int) := by simp [upd, ha]
  generalize upd (upd (fun _ => 0) 0 (a0 0)) 1 (a0 1) = r at f0 f1
  rw [show (fun _ => 0 : Nat → Int) = accV (a0 0) 0 v (fun i k => sumN (fun j => w j * (fun z => a1 (8 + z)) (i * 64 + (j * 8 + k))) n) from accV_zero.symm]
  refine (loop_st (l := fun m i g => impl_Hopf_product.l0 5000 K v w a1 r (fun o11 => impl_Hopf_product.a0_0 5000 K o11) m (i : Int) g) (n := n) (fun i => accV (a0 0) i v (fun i k => sumN (fun j => w j * (fun z => a1 (8 + z)) (i * 64 + (j * 8 + k))) n)) (fun m i hi => ?_) (fun m => ?_) n 0 5000 (by omega) (by omega))
  · simp only [impl_Hopf_product.l0, impl_Hopf_product.b0]
    have h1 : (i : Int) < n := by omega
    have h2 : (0 : Int) ≤ i ∧ (i : Int) < 8 := by omega
    have a1' := hv i (by omega)
    simp only [f1, h1, h2, decide_true, if_true, and_self, Int.toNat_natCast, Nat.mul_one, nx (show i < 100000 by omega)]
    by_cases h0 : v i = 0
    · have hb : (v i == 0) = true := by simp [h0]
      rw [accV_skip hp h0]
      simp [hb]
    · have hb : (v i == 0) = false := by simpa using h0
      simp only [hb, Bool.false_eq_true, if_false]
      have e1 : accV (a0 0) i v (fun i k => sumN (fun j => w j * a1 (8 + (i * 64 + (j * 8 + k)))) n) = part (a0 0) n (fun z => a1 (8 + z)) v w i 0 := (part_zero (m := fun z => a1 (8 + z)) (w := w) (n := n)).symm
      have e2 : accV (a0 0) (i + 1) v (fun i k => sumN (fun j => w j * a1 (8 + (i * 64 + (j * 8 + k)))) n) = part (a0 0) n (fun z => a1 (8 + z)) v w i n := (part_all (m := fun z => a1 (8 + z)) (w := w) (n := n)).symm
      rw [e1, e2]
      refine (loop_st (l := fun m' j g => impl_Hopf_product.l1 5000 K v w a1 r (i : Int) (fun o10 => impl_Hopf_product.a1_0 5000 K (impl_Hopf_product.l0 5000 K v w a1 r (fun o11 => impl_Hopf_product.a0_0 5000 K o11) m) (fun o11 => impl_Hopf_product.a0_0 5000 K o11) (i : Int) o10) m' (j : Int) g) (n := n) (fun j => part (a0 0) n (fun z => a1 (8 + z)) v w i j) (fun m' j hj => ?_) (fun m' => ?_) n 0 5000 (by omega) (by omega))
      · simp only [impl_Hopf_product.l1, impl_Hopf_product.b1]
        have g1 : (j : Int) < n := by omega
        have g2 : (0 : Int) ≤ j ∧ (j : Int) < 8 := by omega
        have b1' := hw j (by omega)
        have c1 := mul_range hp' a1' b1'
        simp only [f1, g1, g2, h2, decide_true, if_true, and_self, Int.toNat_natCast, Nat.mul_one, nx (show j < 100000 by omega)]
        rw [wrap64_id (x := v i) (by omega) (by omega), wrap64_id (x := w j) (by omega) (by omega), wrap64_id (x := v i * w j) (by omega) (by omega)]
        have hmm : ∀ z, z < 8 → 0 ≤ a1 (8 + i * 64 + j * 8 + z) ∧ a1 (8 + i * 64 + j * 8 + z) ≤ 255 := by
          intro z hz
          have := hm i j hi hj z hz
          rw [show 8 + i * 64 + j * 8 + z = 8 + i * 64 + (j * 8 + z) by omega]
          simp only at this
          omega
        rw [impl_plus _ (by rw [f0]; exact hp) (by rw [f0]; exact hp') (by rw [f0]; exact inP_part hp) hmm (by omega) (by omega), f0, part_succ hp]
        have e3 : (fun z => a1 (8 + i * 64 + j * 8 + z)) = fun z => a1 (8 + (i * 64 + (j * 8 + z))) := by
          funext z
          rw [show 8 + i * 64 + j * 8 + z = 8 + (i * 64 + (j * 8 + z)) by omega]
        rw [e3]
      · simp only [impl_Hopf_product.l1, impl_Hopf_product.b1, f1, Int.lt_irrefl, decide_false, Bool.false_eq_true, if_false, impl_Hopf_product.a1_0, nx (show i < 100000 by omega)]
  · simp only [impl_Hopf_product.l0, impl_Hopf_product.b0, f1, Int.lt_irrefl, decide_false, Bool.false_eq_true, if_false, impl_Hopf_product.a0_0]
    rfl

theorem HS.product (h : HS h0 h1 n) (K : (Nat → Int) → Option ρ) {v w : Nat → Int} (hv : inP (h0 0) v) (hw : inP (h0 0) w) : impl_Hopf_product 5000 K v w h0 h1 = K (tm h0 h1 n v w) :=
  hopf_product K h.al.size h.al.p0 h.al.p255 h.al.le hv hw fun i j hi hj => h.al.mul i j (by have := h.al.le; omega) (by have := h.al.le; omega)

theorem tm_keep (hn : n ≤ 8) {v w : Nat → Int} : tm (keepN 2 h0) (keepN 520 h1) n v w = tm h0 h1 n v w := by
  unfold tm timesV
  funext k
  unfold accV
  split
  · show sumN _ n % h0 0 = sumN _ n % h0 0
    congr 1
    refine sumN_congr fun i hi => ?_
    congr 1
    refine sumN_congr fun j hj => ?_
    show w j * keepN 520 h1 (8 + (i * 64 + (j * 8 + k))) = w j * h1 (8 + (i * 64 + (j * 8 + k)))
    rw [keepN_at (by omega)]
  · rfl

theorem HS.times (h : HS h0 h1 n) (K : (Nat → Int) → Option ρ) {v w : Nat → Int} (hv : inP (h0 0) v) (hw : inP (h0 0) w) : spec_l01Times 5000 K (keepN 2 h0) (keepN 520 h1) v w = K (tm h0 h1 n v w) := by
  have hn := h.al.le
  rw [spec_times (a0 := keepN 2 h0) (a1 := keepN 520 h1) K h.al.size h.al.p0 h.al.p255 h.al.le hv hw (fun i j hi hj z hz => by
    have := h.al.mul i j (by omega) (by omega) z hz
    simp only at this ⊢
    rw [keepN_at (by omega)]
    exact this)]
  exact congrArg K (tm_keep hn)

/-! coproducts -/

/-- the rows of the coproduct, behind i terms, and j rows of the next one -/
def coM (c0 c1 v : Nat → Int) (n i j : Nat) : Nat → Int := fun x => if x < n * 8 then (if x / 8 < j then sumN (fun a => v a * c1 (8 + a * 64 + (x / 8) * 8 + x % 8)) (i + 1) % c0 0 else sumN (fun a => v a * c1 (8 + a * 64 + (x / 8) * 8 + x % 8)) i % c0 0) else 0

theorem coM_zero {c0 c1 : Nat → Int} {n : Nat} {v : Nat → Int} : coM c0 c1 v n 0 0 = fun _ => 0 := by
  funext x
  unfold coM
  split
  · rw [if_neg (by omega)]; simp [sumN]
  · rfl

theorem coM_next {c0 c1 : Nat → Int} {n : Nat} {v : Nat → Int} {i j : Nat} (hj : j < n) : updN (coM c0 c1 v n i j) (j * 8) 8 (addV (c0 0) (fun z => coM c0 c1 v n i j (j * 8 + z)) (fun z => c1 (8 + i * 64 + j * 8 + z)) (v i)) = coM c0 c1 v n i (j + 1) := by
  funext x
  unfold updN
  by_cases h0 : j * 8 ≤ x ∧ x < j * 8 + 8
  · rw [if_pos h0]
    obtain ⟨z, hz, rfl⟩ : ∃ z, z < 8 ∧ x = j * 8 + z := ⟨x - j * 8, by omega, by omega⟩
    rw [show j * 8 + z - j * 8 = z by omega]
    have e1 : (j * 8 + z) / 8 = j := by omega
    have e2 : (j * 8 + z) % 8 = z := by omega
    have r1 : coM c0 c1 v n i j (j * 8 + z) = sumN (fun a => v a * c1 (8 + a * 64 + j * 8 + z)) i % c0 0 := by
      unfold coM
      rw [if_pos (by omega), e1, e2, if_neg (by omega)]
    have r2 : coM c0 c1 v n i (j + 1) (j * 8 + z) = sumN (fun a => v a * c1 (8 + a * 64 + j * 8 + z)) (i + 1) % c0 0 := by
      unfold coM
      rw [if_pos (by omega), e1, e2, if_pos (by omega)]
    rw [r2]
    unfold addV
    rw [if_pos hz]
    show (coM c0 c1 v n i j (j * 8 + z) + v i * c1 (8 + i * 64 + j * 8 + z)) % c0 0 = _
    rw [r1, Int.emod_add_emod]
    rfl
  · rw [if_neg h0]
    unfold coM
    by_cases h1 : x < n * 8
    · rw [if_pos h1, if_pos h1]
      by_cases h2 : x / 8 < j
      · rw [if_pos h2, if_pos (by omega)]
      · rw [if_neg h2, if_neg (by omega)]
    · rw [if_neg h1, if_neg h1]

theorem coM_row {c0 c1 : Nat → Int} {n : Nat} {v : Nat → Int} {i : Nat} : coM c0 c1 v n i n = coM c0 c1 v n (i + 1) 0 := by
  funext x
  unfold coM
  by_cases h1 : x < n * 8
  · rw [if_pos h1, if_pos h1, if_pos (by omega), if_neg (by omega)]
  · rw [if_neg h1, if_neg h1]

theorem coM_in {c0 c1 : Nat → Int} {n : Nat} (hp : 0 < c0 0) {v : Nat → Int} {i j q : Nat} : inP (c0 0) (fun z => coM c0 c1 v n i j (q * 8 + z)) := by
  intro z hz
  show 0 ≤ coM c0 c1 v n i j (q * 8 + z) ∧ coM c0 c1 v n i j (q * 8 + z) < c0 0
  unfold coM
  split
  · split
    · exact ⟨Int.emod_nonneg _ (by omega), Int.emod_lt_of_pos _ hp⟩
    · exact ⟨Int.emod_nonneg _ (by omega), Int.emod_lt_of_pos _ hp⟩
  · omega

theorem coM_skip {c0 c1 v : Nat → Int} {n i : Nat} (h : v i = 0) : coM c0 c1 v n (i + 1) 0 = coM c0 c1 v n i 0 := by
  funext x
  unfold coM
  by_cases h1 : x < n * 8
  · rw [if_pos h1, if_pos h1, if_neg (by omega), if_neg (by omega)]
    simp only [sumN, h, Int.zero_mul, Int.add_zero]
  · rw [if_neg h1, if_neg h1]

theorem row_co {h1 : Nat → Int} {i j : Nat} : (fun z => h1 (528 + i * 64 + j * 8 + z)) = fun z => (fun z => h1 (520 + z)) (8 + i * 64 + j * 8 + z) := by
  funext z
  show h1 (528 + i * 64 + j * 8 + z) = h1 (520 + (8 + i * 64 + j * 8 + z))
  congr 1; omega

theorem hsp_coproduct (h : HS h0 h1 n) (K : (Nat → Int) → Option ρ) {v : Nat → Int} (hv : inP (h0 0) v) : spec_l03Coproduct 5000 K h0 h1 v = K (coM h0 (fun z => h1 (520 + z)) v n n 0) := by
  have hn := h.al.le
  rw [spec_l03Coproduct, spec_l03Coproduct.s]
  refine loop_at (n := n) (fun i => coM h0 (fun z => h1 (520 + z)) v n i 0) coM_zero.symm (fun m i hi => ?_) (fun m => ?_) (by omega)
  · simp only [spec_l03Coproduct.l0, spec_l03Coproduct.b0]
    have e1 : (i : Int) < n := by omega
    have hi2 : (0 : Int) ≤ i ∧ (i : Int) < 8 := by omega
    simp only [h.al.size, e1, decide_true, if_true]
    by_cases hv0 : v i = 0
    · have hb : (v i != 0) = false := by simp [hv0]
      refine loop_at (n := 0) (fun _ => coM h0 (fun z => h1 (520 + z)) v n i 0) rfl (fun m' j hj => by omega) (fun m' => ?_) (by omega)
      have n0 : ((0 : Nat) : Int) < n := by have := h.al.pos; omega
      simp only [spec_l03Coproduct.l1, spec_l03Coproduct.b1, h.al.size, n0, hi2, decide_true, if_true, and_self, Int.toNat_natCast, Nat.mul_one, hb, Bool.false_eq_true, if_false, spec_l03Coproduct.a1_0, nx (show i < 100000 by omega), coM_skip hv0]
    · have hb : (v i != 0) = true := by simpa using hv0
      refine loop_at (n := n) (fun j => coM h0 (fun z => h1 (520 + z)) v n i j) rfl (fun m' j hj => ?_) (fun m' => ?_) (by omega)
      · simp only [spec_l03Coproduct.l1, spec_l03Coproduct.b1]
        have g1 : (j : Int) < n := by omega
        have hj2 : (0 : Int) ≤ j ∧ (j : Int) < 8 := by omega
        have u := hv i (by omega)
        have p := h.al.p255
        simp only [h.al.size, g1, hi2, hj2, decide_true, if_true, and_self, Int.toNat_natCast, Nat.mul_one, hb]
        rw [wrap64_id (x := v i) (by omega) (by omega), spec_add _ h.al.p0 h.al.p255 (inP_byte h.al.p255 (coM_in h.al.p0)) (fun z hz => h.cent (by omega) (by omega) hz) (by omega) (by omega), row_co]
        simp only [nx (show j < 100000 by omega), coM_next hj]
      · simp only [spec_l03Coproduct.l1, spec_l03Coproduct.b1, h.al.size, Int.lt_irrefl, decide_false, Bool.false_eq_true, if_false, spec_l03Coproduct.a1_0, nx (show i < 100000 by omega), coM_row]
  · simp only [spec_l03Coproduct.l0, spec_l03Coproduct.b0, h.al.size, Int.lt_irrefl, decide_false, Bool.false_eq_true, if_false, spec_l03Coproduct.a0_0]

theorem him_coproduct (h : HS h0 h1 n) (K : (Nat → Int) → Option ρ) {v : Nat → Int} (hv : inP (h0 0) v) : impl_Hopf_coproduct 5000 K v h0 h1 = K (coM h0 (fun z => h1 (520 + z)) v n n 0) := by
  have hn := h.al.le
  rw [impl_Hopf_coproduct, impl_Hopf_coproduct.s, impl_Hopf_field]
  have f0 := fld0 (a := h0)
  have f1 := (fld1 (a := h0)).trans h.al.size
  generalize upd (upd (fun _ => 0) 0 (h0 0)) 1 (h0 1) = r at f0 f1
  have e8 : coM h0 (fun z => h1 (520 + z)) v n 8 0 = coM h0 (fun z => h1 (520 + z)) v n n 0 := by
    funext x
    unfold coM
    by_cases g1 : x < n * 8
    · rw [if_pos g1, if_pos g1, if_neg (by omega), if_neg (by omega)]
      rw [sumN_out (n := n) hn fun a ha ha8 => by
        have := h.co.mul0 a (x / 8) (x % 8) ha8 (by omega) (by omega) (by omega)
        show v a * h1 (520 + (8 + a * 64 + x / 8 * 8 + x % 8)) = 0
        rw [show 8 + a * 64 + x / 8 * 8 + x % 8 = 8 + (a * 64 + (x / 8 * 8 + x % 8)) by omega, this, Int.mul_zero]]
    · rw [if_neg g1, if_neg g1]
  rw [← e8]
  refine loop_at (n := 8) (fun i => coM h0 (fun z => h1 (520 + z)) v n i 0) coM_zero.symm (fun m i hi => ?_) (fun m => ?_) (by omega)
  · simp only [impl_Hopf_coproduct.l0, impl_Hopf_coproduct.b0]
    have e1 : (i : Int) < 8 := by omega
    have hi2 : (0 : Int) ≤ i ∧ (i : Int) < 8 := by omega
    simp only [e1, hi2, decide_true, if_true, and_self]
    by_cases hv0 : v i = 0
    · have hb : (v i != 0) = false := by simp [hv0]
      refine loop_at (n := 0) (fun _ => coM h0 (fun z => h1 (520 + z)) v n i 0) rfl (fun m' j hj => by omega) (fun m' => ?_) (by omega)
      simp only [impl_Hopf_coproduct.l1, impl_Hopf_coproduct.b1, Int.toNat_natCast, hb, Bool.false_eq_true, if_false, impl_Hopf_coproduct.a1_0, nx (show i < 100000 by omega), coM_skip hv0]
    · have hb : (v i != 0) = true := by simpa using hv0
      refine loop_at (n := n) (fun j => coM h0 (fun z => h1 (520 + z)) v n i j) rfl (fun m' j hj => ?_) (fun m' => ?_) (by omega)
      · simp only [impl_Hopf_coproduct.l1, impl_Hopf_coproduct.b1]
        have g1 : (j : Int) < n := by omega
        have hj2 : (0 : Int) ≤ j ∧ (j : Int) < 8 := by omega
        have u := hv i (by omega)
        have p := h.al.p255
        simp only [f1, g1, hi2, hj2, decide_true, if_true, and_self, Int.toNat_natCast, Nat.mul_one, hb]
        rw [wrap64_id (x := v i) (by omega) (by omega), impl_plus _ (by rw [f0]; exact h.al.p0) (by rw [f0]; exact h.al.p255) (by rw [f0]; exact coM_in h.al.p0) (fun z hz => h.cent (by omega) (by omega) hz) (by omega) (by omega), f0, row_co]
        simp only [nx (show j < 100000 by omega), coM_next hj]
      · simp only [impl_Hopf_coproduct.l1, impl_Hopf_coproduct.b1, Int.toNat_natCast, hb, if_true, f1, Int.lt_irrefl, decide_false, Bool.false_eq_true, if_false, impl_Hopf_coproduct.a1_0, nx (show i < 100000 by omega), coM_row]
  · simp only [impl_Hopf_coproduct.l0, impl_Hopf_coproduct.b0, not8, decide_false, Bool.false_eq_true, if_false, impl_Hopf_coproduct.a0_0]

/-! counits -/

theorem hsp_counit (h : HS h0 h1 n) (K : Int → Option ρ) {v : Nat → Int} (hv : ∀ i, i < 8 → 0 ≤ v i ∧ v i ≤ 255) : spec_l03Counit 5000 K h0 h1 v = K (sumN (fun i => v i * h1 (520 + i)) n % h0 0) := by
  have hn := h.al.le
  rw [spec_l03Counit, spec_l03Counit.s]
  refine loop_ta (n := n) (fun k => sumN (fun i => v i * h1 (520 + i)) k) rfl (fun m k hk => ?_) (fun m => ?_) (by omega)
  · simp only [spec_l03Counit.l0, spec_l03Counit.b0]
    have f1 : (k : Int) < n := by omega
    have hk2 : (0 : Int) ≤ k ∧ (k : Int) < 8 := by omega
    simp only [h.al.size, f1, hk2, decide_true, if_true, and_self, Int.toNat_natCast, Nat.mul_one, nx (show k < 100000 by omega)]
    rw [mac (sum_small (by omega) (fun a ha => hv a (by omega)) (fun a ha => h.cou (by omega))) (hv k (by omega)) (h.cou (by omega))]
    rfl
  · have sm := sum_small (f := v) (g := fun i => h1 (520 + i)) (n := n) hn (fun a ha => hv a (by omega)) (fun a ha => h.cou (by omega))
    have z : ¬ h0 0 = 0 := by have := h.al.p0; omega
    simp only [spec_l03Counit.l0, spec_l03Counit.b0, h.al.size, Int.lt_irrefl, decide_false, Bool.false_eq_true, if_false, spec_l03Counit.a0_0, z]
    rw [Int.tmod_eq_emod_of_nonneg sm.1]

theorem him_counit (h : HS h0 h1 n) (K : Int → Option ρ) {v : Nat → Int} (hv : ∀ i, i < 8 → 0 ≤ v i ∧ v i ≤ 255) : impl_Hopf_counit 5000 K v h0 h1 = K (sumN (fun i => v i * h1 (520 + i)) n % h0 0) := by
  have hn := h.al.le
  rw [impl_Hopf_counit, impl_Hopf_field, impl_dot _ (by rw [fld0]; exact h.al.p0) (fun z hz => h.cou hz) hv, fld0]
  congr 1
  congr 1
  rw [sumN_out (n := n) hn fun k hk hk8 => by
    have := h.co.unit0 k hk8 hk
    simp only [Nat.zero_add] at this
    show h1 (520 + k) * v k = 0
    rw [this, Int.zero_mul]]
  exact sumN_congr fun i _ => Int.mul_comm _ _

theorem impl_pair (K : (Nat → Int) → Option ρ) {f v w : Nat → Int} (hp : 0 < f 0) (hp' : f 0 ≤ 255) (hv : ∀ i, i < 8 → 0 ≤ v i ∧ v i ≤ 255) (hw : ∀ i, i < 8 → 0 ≤ w i ∧ w i ≤ 255) : impl_field_pair 5000 K f v w = K (rowsV (fun j => addV (f 0) (fun _ => 0) w (v j)) 8) := by
  rw [impl_field_pair, impl_field_pair.s]
  refine loop_at (n := 8) (rowsV (fun j => addV (f 0) (fun _ => 0) w (v j))) rowsV_zero.symm (fun m i hi => ?_) (fun m => ?_) (by omega)
  · simp only [impl_field_pair.l0, impl_field_pair.b0, impl_field_times]
    have h1 : (i : Int) < 8 := by omega
    have hi2 : (0 : Int) ≤ i ∧ (i : Int) < 8 := by omega
    have u := hv i hi
    simp only [h1, hi2, decide_true, if_true, and_self, Int.toNat_natCast, Nat.mul_one]
    rw [wrap64_id (x := v i) (by omega) (by omega), impl_plus _ hp hp' (fun _ _ => by omega) hw (by omega) (by omega)]
    simp only [nx (show i < 100000 by omega)]
    rw [← rowsV_next]
  · simp only [impl_field_pair.l0, impl_field_pair.b0, not8, decide_false, Bool.false_eq_true, if_false, impl_field_pair.a0_0]

end
end Go.Proofs.Ytacdnmdfoimjcaa.H
