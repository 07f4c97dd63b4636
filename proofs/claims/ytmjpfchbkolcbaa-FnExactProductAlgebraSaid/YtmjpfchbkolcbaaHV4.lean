/- Codes of algebras and vectors, comparisons, opposites, left tables, traces, powers: told alike by the reference and the program. -/
import Derived.Test.YtmjpfchbkolcbaaHV3
namespace Go.Proofs.Ytmjpfchbkolcbaa.H
set_option linter.unusedVariables false
set_option linter.unusedSimpArgs false
open Go Go.RowKit Go.Proofs.Ytmjpfchbkolcbaa.Hx
set_option linter.unusedVariables false
set_option linter.unusedSimpArgs false
set_option maxRecDepth 100000

variable {ρ : Type}

/-! comparisons of what is the same -/

theorem eqVector_of (K : Bool → Option ρ) {a b : Nat → Int} (h : ∀ z, z < 8 → a z = b z) : laws_eqVector 1000 K a b = K true := by
  refine loop_go (l := fun m i => laws_eqVector.l0 1000 K a b (laws_eqVector.a0_0 1000 K) m (i : Int)) (n := 8) (fun m i hi => ?_) (fun m => ?_) 8 0 1000 (by omega) (by omega)
  · simp only [laws_eqVector.l0, laws_eqVector.b0]
    have h1 : (i : Int) < 8 := by omega
    have h2 : (0 : Int) ≤ i ∧ (i : Int) < 8 := by omega
    simp [h1, h2, h i hi, nx (show i < 100000 by omega)]
  · rfl

theorem eqLinear_of (K : Bool → Option ρ) {a b : Nat → Int} (h : ∀ z, z < 64 → a z = b z) : laws_eqLinear 1000 K a b = K true := by
  refine loop_go (l := fun m i => laws_eqLinear.l0 1000 K a b (laws_eqLinear.a0_0 1000 K) m (i : Int)) (n := 8) (fun m i hi => ?_) (fun m => ?_) 8 0 1000 (by omega) (by omega)
  · simp only [laws_eqLinear.l0, laws_eqLinear.b0]
    have h1 : (i : Int) < 8 := by omega
    have h2 : (0 : Int) ≤ i ∧ (i : Int) < 8 := by omega
    simp only [h1, h2, decide_true, if_true, and_self, Int.toNat_natCast]
    rw [eqVector_of _ fun z hz => h _ (by omega)]
    simp [nx (show i < 100000 by omega)]
  · rfl

theorem eqTable_of (K : Bool → Option ρ) {a b : Nat → Int} (h : ∀ z, z < 512 → a z = b z) : laws_eqTable 1000 K a b = K true := by
  refine loop_go (l := fun m i => laws_eqTable.l0 1000 K a b (laws_eqTable.a0_0 1000 K) m (i : Int)) (n := 8) (fun m i hi => ?_) (fun m => ?_) 8 0 1000 (by omega) (by omega)
  · simp only [laws_eqTable.l0, laws_eqTable.b0]
    have h1 : (i : Int) < 8 := by omega
    have h2 : (0 : Int) ≤ i ∧ (i : Int) < 8 := by omega
    simp only [h1, h2, decide_true, if_true, and_self, Int.toNat_natCast]
    rw [eqLinear_of _ fun z hz => h _ (by omega)]
    simp [nx (show i < 100000 by omega)]
  · rfl

theorem eqAlgebra_of (K : Bool → Option ρ) {a0 a1 b0 b1 : Nat → Int} (h0 : a0 0 = b0 0) (h1 : a0 1 = b0 1) (h : ∀ z, z < 520 → a1 z = b1 z) : laws_eqAlgebra 1000 K a0 a1 b0 b1 = K true := by
  simp only [laws_eqAlgebra, h0, h1, bne_self_eq_false, Bool.false_eq_true, if_false]
  rw [eqVector_of _ fun z hz => h _ (by omega)]
  simp only [Bool.not_true, Bool.false_eq_true, if_false]
  rw [eqTable_of _ fun z hz => h _ (by omega)]
  simp

theorem eqCoalgebra_of (K : Bool → Option ρ) {a0 a1 b0 b1 : Nat → Int} (h0 : a0 0 = b0 0) (h1 : a0 1 = b0 1) (h : ∀ z, z < 520 → a1 z = b1 z) : laws_eqCoalgebra 1000 K a0 a1 b0 b1 = K true := by
  simp only [laws_eqCoalgebra, h0, h1, bne_self_eq_false, Bool.false_eq_true, if_false]
  rw [eqVector_of _ fun z hz => h _ (by omega)]
  simp only [Bool.not_true, Bool.false_eq_true, if_false]
  rw [eqTable_of _ fun z hz => h _ (by omega)]
  simp

theorem eqVector_self (K : Bool → Option ρ) (a : Nat → Int) : laws_eqVector 1000 K a a = K true := eqVector_of K fun _ _ => rfl
theorem eqLinear_self (K : Bool → Option ρ) (a : Nat → Int) : laws_eqLinear 1000 K a a = K true := eqLinear_of K fun _ _ => rfl
theorem eqTable_self (K : Bool → Option ρ) (a : Nat → Int) : laws_eqTable 1000 K a a = K true := eqTable_of K fun _ _ => rfl
theorem eqAlgebra_self (K : Bool → Option ρ) (a0 a1 : Nat → Int) : laws_eqAlgebra 1000 K a0 a1 a0 a1 = K true := eqAlgebra_of K rfl rfl fun _ _ => rfl
theorem eqCoalgebra_self (K : Bool → Option ρ) (a0 a1 : Nat → Int) : laws_eqCoalgebra 1000 K a0 a1 a0 a1 = K true := eqCoalgebra_of K rfl rfl fun _ _ => rfl

/-! codes -/

/-- are m vectors of a list ones for an algebra? -/
def listB (p n : Int) (g : Nat → Int) (m : Nat) : Bool := allN (fun i => vecB p n (fun z => g (i * 8 + z))) 0 m

section
variable {a0 a1 : Nat → Int} {n : Nat}

theorem spec_code16 (hb : ∀ i, i < 520 → 0 ≤ a1 i ∧ a1 i ≤ 255) (K : Int → Option ρ) (g : Nat → Int) {m c : Nat} (hm : m < 900) : spec_l01Code_s16 1000 K a0 a1 m c g = K (if (algB a0 a1 && listB (a0 0) (a0 1) g m) = true then 0 else 1) := by
  simp only [spec_l01Code_s16, spec_l01Code_s16.s, spec_is hb]
  cases algB a0 a1
  · simp
  · simp only [Bool.not_true, Bool.false_eq_true, if_false, Bool.true_and]
    refine (loop_all (l := fun k i => spec_l01Code_s16.l0 1000 K a0 m g (spec_l01Code_s16.a0_0 1000 K) k (i : Int)) (n := m) (fun i => vecB (a0 0) (a0 1) (fun z => g (i * 8 + z))) (no := K 1) (out := K 0) (fun k i hi => ?_) (fun k => ?_) m 0 1000 (by omega) (by omega)).trans ?_
    · simp only [spec_l01Code_s16.l0, spec_l01Code_s16.b0, spec_vector]
      have h1 : (i : Int) < m := by omega
      have h2 : (0 : Int) ≤ i ∧ (i : Int) < m := by omega
      simp only [h1, h2, decide_true, if_true, and_self, Int.toNat_natCast, Nat.zero_add, nx (show i < 100000 by omega)]
      cases vecB (a0 0) (a0 1) (fun z => g (i * 8 + z)) <;> simp
    · simp only [spec_l01Code_s16.l0, spec_l01Code_s16.b0, Int.lt_irrefl, decide_false, Bool.false_eq_true, if_false, spec_l01Code_s16.a0_0]
    · unfold listB
      split <;> rfl

theorem spec_code8 (hb : ∀ i, i < 520 → 0 ≤ a1 i ∧ a1 i ≤ 255) (K : Int → Option ρ) (g : Nat → Int) {m c : Nat} (hm : m < 900) : spec_l01Code_s8 1000 K a0 a1 m c g = K (if (algB a0 a1 && listB (a0 0) (a0 1) g m) = true then 0 else 1) := by
  simp only [spec_l01Code_s8, spec_l01Code_s8.s, spec_is hb]
  cases algB a0 a1
  · simp
  · simp only [Bool.not_true, Bool.false_eq_true, if_false, Bool.true_and]
    refine (loop_all (l := fun k i => spec_l01Code_s8.l0 1000 K a0 m g (spec_l01Code_s8.a0_0 1000 K) k (i : Int)) (n := m) (fun i => vecB (a0 0) (a0 1) (fun z => g (i * 8 + z))) (no := K 1) (out := K 0) (fun k i hi => ?_) (fun k => ?_) m 0 1000 (by omega) (by omega)).trans ?_
    · simp only [spec_l01Code_s8.l0, spec_l01Code_s8.b0, spec_vector]
      have h1 : (i : Int) < m := by omega
      have h2 : (0 : Int) ≤ i ∧ (i : Int) < m := by omega
      simp only [h1, h2, decide_true, if_true, and_self, Int.toNat_natCast, Nat.zero_add, nx (show i < 100000 by omega)]
      cases vecB (a0 0) (a0 1) (fun z => g (i * 8 + z)) <;> simp
    · simp only [spec_l01Code_s8.l0, spec_l01Code_s8.b0, Int.lt_irrefl, decide_false, Bool.false_eq_true, if_false, spec_l01Code_s8.a0_0]
    · unfold listB
      split <;> rfl

theorem impl_unless_eq (K : Int → Option ρ) (b : Bool) (c : Int) : impl_unless 1000 K b c = K (if b = true then 0 else c) := by
  cases b <;> rfl

theorem impl_index (K : Int → Option ρ) (g g4 g5 : Nat → Int) (hs : sizB (g4 0) (g4 1) = true) {m c d : Nat} (hm : m < 900) :
    slices_IndexFunc_sf 1000 K m c d g g4 g5 = optK (firstN (fun i => if vecB (g4 0) (g4 1) (fun z => g (i * 8 + z)) = true then none else some i) 0 m) (fun i => K (i : Int)) (K (-1)) := by
  refine loop_find (l := fun k i => slices_IndexFunc_sf.l0 1000 K m g g4 g5 (slices_IndexFunc_sf.a0_0 1000 K) k (i : Int)) (n := m) (fun i => if vecB (g4 0) (g4 1) (fun z => g (i * 8 + z)) = true then none else some i) (fun i => K (i : Int)) (fun k i hi => ?_) (fun k => ?_) m 0 1000 (by omega) (by omega)
  · simp only [slices_IndexFunc_sf.l0, slices_IndexFunc_sf.b0, impl_Algebra_has_c1, impl_isVector, hs, Bool.true_and]
    have h1 : (i : Int) < m := by omega
    have h2 : (0 : Int) ≤ i ∧ (i : Int) < m := by omega
    simp only [h1, h2, decide_true, if_true, and_self, Int.toNat_natCast, Nat.zero_add, nx (show i < 100000 by omega)]
    cases vecB (g4 0) (g4 1) (fun z => g (i * 8 + z)) <;> simp [optK]
  · simp only [slices_IndexFunc_sf.l0, slices_IndexFunc_sf.b0, Int.lt_irrefl, decide_false, Bool.false_eq_true, if_false, slices_IndexFunc_sf.a0_0]

theorem impl_has (K : Bool → Option ρ) (g a0 a1 : Nat → Int) (hs : sizB (a0 0) (a0 1) = true) {m c d : Nat} (hm : m < 900) : impl_Algebra_has_s 1000 K m c a0 a1 d g = K (listB (a0 0) (a0 1) g m) := by
  simp only [impl_Algebra_has_s, slices_ContainsFunc_sf]
  rw [impl_index _ _ _ _ hs hm]
  simp only [Nat.zero_add]
  unfold listB
  rw [← firstN_none (f := fun i => i)]
  cases firstN (fun i => if vecB (a0 0) (a0 1) (fun z => g (i * 8 + z)) = true then none else some i) 0 m with
  | none => simp [optK]
  | some i => simp [optK]

theorem algB_siz (h : algB a0 a1 = true) : shB a0 a1 = true ∧ sizB (a0 0) (a0 1) = true := by
  simp only [algB, shB, Bool.and_eq_true] at h ⊢
  exact ⟨h.1, h.1.1⟩

theorem impl_code16 (hb : ∀ i, i < 520 → 0 ≤ a1 i ∧ a1 i ≤ 255) (K : Int → Option ρ) (g : Nat → Int) {m c : Nat} (hm : m < 900) : impl_Algebra_code_s16 1000 K m c a0 a1 g = K (if (algB a0 a1 && listB (a0 0) (a0 1) g m) = true then 0 else 1) := by
  simp only [impl_Algebra_code_s16, impl_is hb]
  by_cases h : algB a0 a1 = true
  · simp only [h, if_true, Bool.true_and]
    rw [impl_has _ _ _ _ (algB_siz h).2 hm, impl_unless_eq]
    simp only [Nat.zero_add]
  · have h' : algB a0 a1 = false := by simpa using h
    simp [h', impl_unless_eq]

theorem impl_code8 (hb : ∀ i, i < 520 → 0 ≤ a1 i ∧ a1 i ≤ 255) (K : Int → Option ρ) (g : Nat → Int) {m c : Nat} (hm : m < 900) : impl_Algebra_code_s8 1000 K m c a0 a1 g = K (if (algB a0 a1 && listB (a0 0) (a0 1) g m) = true then 0 else 1) := by
  simp only [impl_Algebra_code_s8, impl_is hb]
  by_cases h : algB a0 a1 = true
  · simp only [h, if_true, Bool.true_and]
    rw [impl_has _ _ _ _ (algB_siz h).2 hm, impl_unless_eq]
    simp only [Nat.zero_add]
  · have h' : algB a0 a1 = false := by simpa using h
    simp [h', impl_unless_eq]

theorem impl_code0 (hb : ∀ i, i < 520 → 0 ≤ a1 i ∧ a1 i ≤ 255) (K : Int → Option ρ) : impl_Algebra_code_n 1000 K a0 a1 = K (if algB a0 a1 = true then 0 else 1) := by
  simp only [impl_Algebra_code_n, impl_is hb]
  by_cases h : algB a0 a1 = true
  · simp only [h, if_true]
    rfl
  · have h' : algB a0 a1 = false := by simpa using h
    simp [h', impl_unless_eq]

theorem algB_shp (h : algB a0 a1 = true) (hb : ∀ i, i < 520 → 0 ≤ a1 i ∧ a1 i ≤ 255) : ∃ n, Shp a0 a1 n := shp_of (algB_siz h).1 hb

theorem listB_in {p q : Int} {g : Nat → Int} {m : Nat} (h : listB p q g m = true) (hb : ∀ i, i < m * 8 → 0 ≤ g i ∧ g i ≤ 255) {i : Nat} (hi : i < m) : inP p (fun z => g (i * 8 + z)) :=
  vecB_in (allN_true.1 h i (by omega) (by omega)) fun z hz => hb _ (by omega)

/-! left tables -/

/-- n vectors, one behind the other -/
def rowsV (W : Nat → Nat → Int) (n : Nat) : Nat → Int := fun x => if x < n * 8 then W (x / 8) (x % 8) else 0

theorem rowsV_zero {W : Nat → Nat → Int} : rowsV W 0 = fun _ => 0 := by funext x; simp [rowsV]

theorem rowsV_next {W : Nat → Nat → Int} {n : Nat} : updN (rowsV W n) (n * 8) 8 (W n) = rowsV W (n + 1) := by
  funext x
  unfold updN rowsV
  by_cases h : n * 8 ≤ x ∧ x < n * 8 + 8
  · rw [if_pos h, if_pos (by omega), show x / 8 = n by omega, show x % 8 = x - n * 8 by omega]
  · rw [if_neg h]
    by_cases h2 : x < n * 8
    · rw [if_pos h2, if_pos (by omega)]
    · rw [if_neg h2, if_neg (by omega)]

def leftV (a0 a1 : Nat → Int) (n : Nat) (v : Nat → Int) : Nat → Int := rowsV (fun i => tm a0 a1 n v (eb i)) n

theorem spec_left (h : Shp a0 a1 n) (K : (Nat → Int) → Option ρ) {v : Nat → Int} (hv : inP (a0 0) v) : spec_l01Left 1000 K a0 a1 v = K (leftV a0 a1 n v) := by
  have hn := h.le
  simp only [spec_l01Left, spec_l01Left.s]
  rw [show (fun _ => 0 : Nat → Int) = rowsV (fun i => tm a0 a1 n v (eb i)) 0 from rowsV_zero.symm]
  refine loop_st (l := fun m i g => spec_l01Left.l0 1000 K a0 a1 v (fun o => spec_l01Left.a0_0 1000 K o) m (i : Int) g) (n := n) (rowsV (fun i => tm a0 a1 n v (eb i))) (fun m i hi => ?_) (fun m => ?_) n 0 1000 (by omega) (by omega)
  · simp only [spec_l01Left.l0, spec_l01Left.b0]
    have h1 : (i : Int) < n := by omega
    have h2 : (0 : Int) ≤ i ∧ (i : Int) < 8 := by omega
    simp only [h.size, h1, h2, decide_true, if_true, and_self, Int.toNat_natCast, spec_basis_eq _ (show i < 8 by omega), nx (show i < 100000 by omega)]
    rw [h.times _ hv (inP_basis h.p2 _)]
    rw [← rowsV_next]
  · simp only [spec_l01Left.l0, spec_l01Left.b0, h.size, Int.lt_irrefl, decide_false, Bool.false_eq_true, if_false, spec_l01Left.a0_0]
    rfl

theorem impl_left (h : Shp a0 a1 n) (K : (Nat → Int) → Option ρ) {v : Nat → Int} (hv : inP (a0 0) v) : impl_Algebra_leftTable 1000 K v a0 a1 = K (leftV a0 a1 n v) := by
  have hn := h.le
  simp only [impl_Algebra_leftTable, impl_Algebra_leftTable.s]
  rw [show (fun _ => 0 : Nat → Int) = rowsV (fun i => tm a0 a1 n v (eb i)) 0 from rowsV_zero.symm]
  refine loop_st (l := fun m i g => impl_Algebra_leftTable.l0 1000 K v a0 a1 (fun o => impl_Algebra_leftTable.a0_0 1000 K o) m (i : Int) g) (n := n) (rowsV (fun i => tm a0 a1 n v (eb i))) (fun m i hi => ?_) (fun m => ?_) n 0 1000 (by omega) (by omega)
  · simp only [impl_Algebra_leftTable.l0, impl_Algebra_leftTable.b0]
    have h1 : (i : Int) < n := by omega
    have h2 : (0 : Int) ≤ i ∧ (i : Int) < 8 := by omega
    simp only [h.size, h1, h2, decide_true, if_true, and_self, Int.toNat_natCast, impl_basis_eq _ (show i < 8 by omega), nx (show i < 100000 by omega)]
    rw [h.product _ hv (inP_basis h.p2 _)]
    rw [← rowsV_next]
  · simp only [impl_Algebra_leftTable.l0, impl_Algebra_leftTable.b0, h.size, Int.lt_irrefl, decide_false, Bool.false_eq_true, if_false, impl_Algebra_leftTable.a0_0]
    rfl

/-! traces -/

theorem sumN_out {f : Nat → Int} {n : Nat} : ∀ {m : Nat}, n ≤ m → (∀ i, n ≤ i → i < m → f i = 0) → sumN f m = sumN f n
  | 0, h, _ => by rw [show n = 0 by omega]
  | m + 1, h, hz => by
    by_cases he : n = m + 1
    · rw [he]
    · simp only [sumN]
      rw [hz m (by omega) (by omega), sumN_out (m := m) (by omega) fun i h1 h2 => hz i h1 (by omega)]; omega

theorem spec_trace (K : Int → Option ρ) {p : Int} {n : Nat} {f : Nat → Int} (hp : 0 < p) (hn : n ≤ 8) (hf : ∀ i, i < n → 0 ≤ f (i * 8 + i) ∧ f (i * 8 + i) ≤ 255) : spec_l01Trace 1000 K p n f = K (sumN (fun i => f (i * 8 + i)) n % p) := by
  simp only [spec_l01Trace, spec_l01Trace.s]
  refine loop_st (l := fun m i o => spec_l01Trace.l0 1000 K n f (fun o => spec_l01Trace.a0_0 1000 K p o) m o (i : Int)) (n := n) (fun i => sumN (fun i => f (i * 8 + i)) i) (fun m i hi => ?_) (fun m => ?_) n 0 1000 (by omega) (by omega)
  · simp only [spec_l01Trace.l0, spec_l01Trace.b0]
    have h1 : (i : Int) < n := by omega
    have h2 : (0 : Int) ≤ i ∧ (i : Int) < 8 := by omega
    have h3 := hf i hi
    have h4 := sumN_bound (f := fun i => f (i * 8 + i)) (n := i) (b := 255) fun j hj => hf j (by omega)
    have h5 : (i : Int) * 255 ≤ 2040 := by omega
    simp only [h1, h2, decide_true, if_true, and_self, Int.toNat_natCast, Nat.mul_one, nx (show i < 100000 by omega)]
    rw [wrap64_id (x := f (i * 8 + i)) (by omega) (by omega), wrap64_id (by omega) (by omega)]
    rfl
  · have h0 : ¬ p = 0 := by omega
    have h4 := sumN_bound (f := fun i => f (i * 8 + i)) (n := n) (b := 255) fun j hj => hf j (by omega)
    simp only [spec_l01Trace.l0, spec_l01Trace.b0, Int.lt_irrefl, decide_false, Bool.false_eq_true, if_false, spec_l01Trace.a0_0, h0]
    rw [Int.tmod_eq_emod_of_nonneg h4.1]

theorem impl_trace (K : Int → Option ρ) {a f : Nat → Int} (hp : 0 < a 0) (hf : ∀ i, i < 8 → 0 ≤ f (i * 8 + i) ∧ f (i * 8 + i) ≤ 255) : impl_field_trace 1000 K a f = K (sumN (fun i => f (i * 8 + i)) 8 % a 0) := by
  simp only [impl_field_trace, impl_field_trace.s]
  refine loop_st (l := fun m i o => impl_field_trace.l0 1000 K f (fun o => impl_field_trace.a0_0 1000 K a o) m o (i : Int)) (n := 8) (fun i => sumN (fun i => f (i * 8 + i)) i) (fun m i hi => ?_) (fun m => ?_) 8 0 1000 (by omega) (by omega)
  · simp only [impl_field_trace.l0, impl_field_trace.b0]
    have h1 : (i : Int) < 8 := by omega
    have h2 : (0 : Int) ≤ i ∧ (i : Int) < 8 := by omega
    have h3 := hf i hi
    have h4 := sumN_bound (f := fun i => f (i * 8 + i)) (n := i) (b := 255) fun j hj => hf j (by omega)
    have h5 : (i : Int) * 255 ≤ 2040 := by omega
    simp only [h1, h2, decide_true, if_true, and_self, Int.toNat_natCast, Nat.mul_one, nx (show i < 100000 by omega)]
    rw [wrap64_id (x := f (i * 8 + i)) (by omega) (by omega), wrap64_id (by omega) (by omega)]
    rfl
  · have h0 : ¬ a 0 = 0 := by omega
    have h4 := sumN_bound (f := fun i => f (i * 8 + i)) (n := 8) (b := 255) fun j hj => hf j (by omega)
    simp only [impl_field_trace.l0, impl_field_trace.b0]
    show impl_field_trace.a0_0 1000 K a _ = _
    simp only [impl_field_trace.a0_0, h0, if_false]
    rw [Int.tmod_eq_emod_of_nonneg h4.1]

/-! powers -/

def powV (a0 a1 : Nat → Int) (n : Nat) (u v : Nat → Int) : Nat → Nat → Int
  | 0 => u
  | k + 1 => tm a0 a1 n (powV a0 a1 n u v k) v

theorem powV_in (h : Shp a0 a1 n) {u v : Nat → Int} (hu : inP (a0 0) u) : ∀ k, inP (a0 0) (powV a0 a1 n u v k)
  | 0 => hu
  | k + 1 => h.tm_in _ _

theorem impl_power (h : Shp a0 a1 n) (K : (Nat → Int) → Option ρ) {v : Nat → Int} {k : Nat} (hk : k ≤ 100) (hv : inP (a0 0) v) : impl_Algebra_power 1000 K v (k : Int) a0 a1 = K (powV a0 a1 n (fun z => a1 (0 + z)) v k) := by
  simp only [impl_Algebra_power, impl_Algebra_power.s]
  refine loop_st (l := fun m i g => impl_Algebra_power.l0 1000 K v (k : Int) a0 a1 (fun o => impl_Algebra_power.a0_0 1000 K o) m (i : Int) g) (n := k) (powV a0 a1 n (fun z => a1 (0 + z)) v) (fun m i hi => ?_) (fun m => ?_) k 0 1000 (by omega) (by omega)
  · simp only [impl_Algebra_power.l0, impl_Algebra_power.b0]
    have h1 : (i : Int) < k := by omega
    simp only [h1, decide_true, if_true, nx (show i < 100000 by omega)]
    rw [h.product _ (powV_in h h.unit i) hv]
    rfl
  · simp only [impl_Algebra_power.l0, impl_Algebra_power.b0, Int.lt_irrefl, decide_false, Bool.false_eq_true, if_false, impl_Algebra_power.a0_0]

theorem spec_powLoop (h : Shp a0 a1 n) (K : (Nat → Int) → Int → Option ρ) {v : Nat → Int} {k : Nat} (hk : k ≤ 100) (hv : inP (a0 0) v) : spec_PowerOf.l0 1000 K a0 a1 v (fun o => spec_PowerOf.a0_0 1000 K o) 1000 (k : Int) (fun z => a1 (0 + z)) = K (powV a0 a1 n (fun z => a1 (0 + z)) v k) 0 := by
  have := loop_st (l := fun m i g => spec_PowerOf.l0 1000 K a0 a1 v (fun o => spec_PowerOf.a0_0 1000 K o) m ((k - i : Nat) : Int) g) (n := k) (out := K (powV a0 a1 n (fun z => a1 (0 + z)) v k) 0) (powV a0 a1 n (fun z => a1 (0 + z)) v) (fun m i hi => ?_) (fun m => ?_) k 0 1000 (by omega) (by omega)
  · exact this
  · simp only [spec_PowerOf.l0, spec_PowerOf.b0]
    have h1 : ((k - i : Nat) : Int) > 0 := by omega
    have h2 : IntKind.i64.wrap (((k - i : Nat) : Int) - 1) = ((k - (i + 1) : Nat) : Int) := by rw [wrap64_id (by omega) (by omega)]; omega
    simp only [h1, decide_true, if_true, h2]
    rw [h.times _ (powV_in h h.unit i) hv]
    rfl
  · have h1 : ¬ ((k - k : Nat) : Int) > 0 := by omega
    simp only [spec_PowerOf.l0, spec_PowerOf.b0, h1, decide_false, Bool.false_eq_true, if_false, spec_PowerOf.a0_0]

/-! opposites -/

/-- the tables' places turned: where the places ahead of q in the order of pairs are turned already -/
def oppTo (a : Nat → Int) (q : Nat) : Nat → Int := fun x => if 8 ≤ x ∧ (x - 8) / 8 < q then a (8 + ((x - 8) / 8 % 8) * 64 + ((x - 8) / 64) * 8 + (x - 8) % 8) else a x

theorem oppTo_zero {a : Nat → Int} : oppTo a 0 = a := by funext x; simp [oppTo]

theorem oppTo_next {a : Nat → Int} {i j : Nat} (hi : i < 8) (hj : j < 8) : updN (oppTo a (i * 8 + j)) (8 + i * 64 + j * 8) 8 (fun z => a (8 + j * 64 + i * 8 + z)) = oppTo a (i * 8 + (j + 1)) := by
  funext x
  unfold updN oppTo
  by_cases h : 8 + i * 64 + j * 8 ≤ x ∧ x < 8 + i * 64 + j * 8 + 8
  · rw [if_pos h, if_pos (by omega)]
    have h1 : (x - 8) / 8 = i * 8 + j := by omega
    have h2 : (x - 8) / 64 = i := by omega
    rw [h1, h2]
    show a (8 + j * 64 + i * 8 + (x - (8 + i * 64 + j * 8))) = a (8 + (i * 8 + j) % 8 * 64 + i * 8 + (x - 8) % 8)
    congr 1
    omega
  · rw [if_neg h]
    by_cases h2 : 8 ≤ x ∧ (x - 8) / 8 < i * 8 + j
    · rw [if_pos h2, if_pos (by omega)]
    · rw [if_neg h2, if_neg (by omega)]

theorem impl_opposite (K : (Nat → Int) → (Nat → Int) → Option ρ) (a0 a1 : Nat → Int) : impl_Algebra_opposite 1000 K a0 a1 = K a0 (oppTo a1 64) := by
  simp only [impl_Algebra_opposite, impl_Algebra_opposite.s]
  refine Eq.trans (congrArg _ (show a1 = oppTo a1 (0 * 8) from oppTo_zero.symm)) ?_
  refine (loop_st (l := fun m i g => impl_Algebra_opposite.l0 1000 K a1 (fun o => impl_Algebra_opposite.a0_0 1000 K a0 o) m (i : Int) g) (n := 8) (fun i => oppTo a1 (i * 8)) (fun m i hi => ?_) (fun m => ?_) 8 0 1000 (by omega) (by omega))
  · simp only [impl_Algebra_opposite.l0, impl_Algebra_opposite.b0]
    have h1 : (i : Int) < 8 := by omega
    have h2 : (0 : Int) ≤ i ∧ (i : Int) < 8 := by omega
    simp only [h1, decide_true, if_true]
    refine (loop_st (l := fun m' j g => impl_Algebra_opposite.l1 1000 K a1 (i : Int) (fun o => impl_Algebra_opposite.a1_0 1000 K (impl_Algebra_opposite.l0 1000 K a1 (fun o => impl_Algebra_opposite.a0_0 1000 K a0 o) m) (fun o => impl_Algebra_opposite.a0_0 1000 K a0 o) (i : Int) o) m' (j : Int) g) (n := 8) (fun j => oppTo a1 (i * 8 + j)) (fun m' j hj => ?_) (fun m' => ?_) 8 0 1000 (by omega) (by omega))
    · simp only [impl_Algebra_opposite.l1, impl_Algebra_opposite.b1]
      have g1 : (j : Int) < 8 := by omega
      have g2 : (0 : Int) ≤ j ∧ (j : Int) < 8 := by omega
      simp only [g1, g2, h2, decide_true, if_true, and_self, Int.toNat_natCast, nx (show j < 100000 by omega), oppTo_next hi hj]
    · simp only [impl_Algebra_opposite.l1, impl_Algebra_opposite.b1]
      show impl_Algebra_opposite.a1_0 1000 K (impl_Algebra_opposite.l0 1000 K a1 (fun o => impl_Algebra_opposite.a0_0 1000 K a0 o) m) (fun o => impl_Algebra_opposite.a0_0 1000 K a0 o) (i : Int) _ = _
      simp only [impl_Algebra_opposite.a1_0, nx (show i < 100000 by omega)]
      rw [show i * 8 + 8 = (i + 1) * 8 by omega]
  · rfl

end
end Go.Proofs.Ytmjpfchbkolcbaa.H
