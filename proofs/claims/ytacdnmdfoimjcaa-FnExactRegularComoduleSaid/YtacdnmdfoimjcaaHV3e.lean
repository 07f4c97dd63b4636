/- Algebras: their shape, units and associativity, told alike by the reference and the program. -/
import Derived.Test.YtacdnmdfoimjcaaHV2
namespace Go.Proofs.Ytacdnmdfoimjcaa.H
set_option linter.unusedVariables false
set_option linter.unusedSimpArgs false
open Go Go.RowKit Go.Proofs.Ytacdnmdfoimjcaa.Hx
set_option linter.unusedVariables false
set_option linter.unusedSimpArgs false
set_option maxRecDepth 100000

variable {ρ : Type}

theorem toVector_eq (K : (Nat → Int) → Option ρ) (a : Nat → Int) : laws_toVector 5000 K a = K (keepN 8 a) := by
  simp only [laws_toVector, laws_toVector.s]
  rw [show (fun _ => 0 : Nat → Int) = keepN 0 a from keepN_zero.symm]
  refine (loop_st (l := fun m i g => laws_toVector.l0 5000 K a (fun o => laws_toVector.a0_0 5000 K o) m (i : Int) g) (n := 8) (fun i => keepN i a) (fun m i hi => ?_) (fun m => ?_) 8 0 5000 (by omega) (by omega))
  · simp only [laws_toVector.l0, laws_toVector.b0]
    have h1 : (i : Int) < 8 := by omega
    have h2 : (0 : Int) ≤ i ∧ (i : Int) < 8 := by omega
    simp only [h1, h2, decide_true, if_true, and_self, Int.toNat_natCast, Nat.mul_one, nx (show i < 100000 by omega), keepN_next]
  · rfl

theorem toLinear_eq (K : (Nat → Int) → Option ρ) (a : Nat → Int) : laws_toLinear 5000 K a = K (keepN 64 a) := by
  simp only [laws_toLinear, laws_toLinear.s]
  rw [show (fun _ => 0 : Nat → Int) = keepN (0 * 8) a from keepN_zero.symm]
  refine (loop_st (l := fun m i g => laws_toLinear.l0 5000 K a (fun o => laws_toLinear.a0_0 5000 K o) m (i : Int) g) (n := 8) (fun i => keepN (i * 8) a) (fun m i hi => ?_) (fun m => ?_) 8 0 5000 (by omega) (by omega))
  · simp only [laws_toLinear.l0, laws_toLinear.b0, toVector_eq]
    have h1 : (i : Int) < 8 := by omega
    have h2 : (0 : Int) ≤ i ∧ (i : Int) < 8 := by omega
    simp only [h1, h2, decide_true, if_true, and_self, Int.toNat_natCast, Nat.mul_one, nx (show i < 100000 by omega)]
    rw [keepN_updN (fun z hz => by simp [keepN, hz]), show (i + 1) * 8 = i * 8 + 8 by omega]
  · rfl

theorem toTable_eq (K : (Nat → Int) → Option ρ) (a : Nat → Int) : laws_toTable 5000 K a = K (keepN 512 a) := by
  simp only [laws_toTable, laws_toTable.s]
  rw [show (fun _ => 0 : Nat → Int) = keepN (0 * 64) a from keepN_zero.symm]
  refine (loop_st (l := fun m i g => laws_toTable.l0 5000 K a (fun o => laws_toTable.a0_0 5000 K o) m (i : Int) g) (n := 8) (fun i => keepN (i * 64) a) (fun m i hi => ?_) (fun m => ?_) 8 0 5000 (by omega) (by omega))
  · simp only [laws_toTable.l0, laws_toTable.b0, toLinear_eq]
    have h1 : (i : Int) < 8 := by omega
    have h2 : (0 : Int) ≤ i ∧ (i : Int) < 8 := by omega
    simp only [h1, h2, decide_true, if_true, and_self, Int.toNat_natCast, Nat.mul_one, nx (show i < 100000 by omega)]
    rw [keepN_updN (fun z hz => by simp [keepN, hz]), show (i + 1) * 64 = i * 64 + 64 by omega]
  · rfl

theorem keepN_byte {m : Nat} {a : Nat → Int} (h : ∀ i, IntKind.u8.has (a i)) : ∀ i, i < m → 0 ≤ keepN m a i ∧ keepN m a i ≤ 255 := by
  intro i hi
  rw [keepN_at hi]
  exact h i

/-! the shape -/

def shB (a0 a1 : Nat → Int) : Bool := sizB (a0 0) (a0 1) && (vecB (a0 0) (a0 1) (fun z => a1 (0 + z)) && tabB (a0 0) (a0 1) (fun z => a1 (8 + z)))

theorem spec_shape (K : Bool → Option ρ) (a0 a1 : Nat → Int) : spec_l01Shape 5000 K a0 a1 = K (shB a0 a1) := by
  simp only [spec_l01Shape, spec_sizes, spec_vector, spec_table, shB]
  cases sizB (a0 0) (a0 1)
  · simp
  · cases vecB (a0 0) (a0 1) (fun z => a1 (0 + z)) <;> simp

theorem impl_shape (K : Bool → Option ρ) (a0 a1 : Nat → Int) : impl_Algebra_isShaped 5000 K a0 a1 = K (shB a0 a1) := by
  simp only [impl_Algebra_isShaped, impl_isVector, shB]
  by_cases hs : sizB (a0 0) (a0 1) = true
  · simp only [hs, Bool.true_and, impl_table _ _ _ _ hs]
    cases vecB (a0 0) (a0 1) (fun z => a1 (0 + z)) <;> simp
  · simp [hs]

theorem vecB_at {p n : Int} {v : Nat → Int} (h : vecB p n v = true) {i : Nat} (hi : i < 8) : IntKind.i64.wrap (v i) < p ∧ (n ≤ (i : Int) → v i = 0) := by
  have := allN_true.1 h i (by omega) (by omega)
  simp only [Bool.and_eq_true, Bool.not_eq_true', decide_eq_false_iff_not, Bool.or_eq_true] at this
  refine ⟨by omega, fun hn => ?_⟩
  rcases this.2 with h1 | h1
  · exact absurd hn h1
  · simpa using h1

theorem vecB_in {p n : Int} {v : Nat → Int} (h : vecB p n v = true) (hb : ∀ i, i < 8 → 0 ≤ v i ∧ v i ≤ 255) : inP p v := by
  intro i hi
  have h1 := (vecB_at h hi).1
  have h2 := hb i hi
  rw [wrap64_id (by omega) (by omega)] at h1
  omega

theorem linB_at {p n : Int} {f : Nat → Int} (h : linB p n f = true) {i : Nat} (hi : i < 8) : vecB p n (fun z => f (i * 8 + z)) = true ∧ (n ≤ (i : Int) → ∀ j, j < 8 → f (i * 8 + j) = 0) := by
  have := allN_true.1 h i (by omega) (by omega)
  simp only [Bool.and_eq_true, Bool.not_eq_true', decide_eq_false_iff_not, Bool.or_eq_true, eqN, decide_eq_true_eq] at this
  refine ⟨this.1, fun hn => ?_⟩
  rcases this.2 with h1 | h1
  · exact absurd hn h1
  · exact h1

theorem tabB_at {p n : Int} {t : Nat → Int} (h : tabB p n t = true) {i : Nat} (hi : i < 8) : linB p n (fun z => t (i * 64 + z)) = true ∧ (n ≤ (i : Int) → ∀ j, j < 64 → t (i * 64 + j) = 0) := by
  have := allN_true.1 h i (by omega) (by omega)
  simp only [Bool.and_eq_true, Bool.not_eq_true', decide_eq_false_iff_not, Bool.or_eq_true, eqN, decide_eq_true_eq] at this
  refine ⟨this.1, fun hn => ?_⟩
  rcases this.2 with h1 | h1
  · exact absurd hn h1
  · exact h1

/-- a table's entries -/
theorem tabB_in {p : Int} {n : Nat} {t : Nat → Int} (h : tabB p n t = true) (hb : ∀ i, i < 512 → 0 ≤ t i ∧ t i ≤ 255) {i j : Nat} (hi : i < 8) (hj : j < 8) : inP p (fun z => t (i * 64 + (j * 8 + z))) := by
  have h1 := (linB_at (tabB_at h hi).1 hj).1
  exact vecB_in h1 fun z hz => hb _ (by omega)

theorem tabB_out {p : Int} {n : Nat} {t : Nat → Int} (h : tabB p n t = true) {i j k : Nat} (hi : i < 8) (hj : j < 8) (hk : k < 8) (ho : n ≤ i ∨ n ≤ j ∨ n ≤ k) : t (i * 64 + (j * 8 + k)) = 0 := by
  rcases ho with h1 | h1 | h1
  · exact (tabB_at h hi).2 (by omega) (j * 8 + k) (by omega)
  · exact (linB_at (tabB_at h hi).1 hj).2 (by omega) k hk
  · exact (vecB_at (linB_at (tabB_at h hi).1 hj).1 hk).2 (by omega)

theorem sizB_at {p m : Int} (h : sizB p m = true) : 2 ≤ p ∧ p ≤ 31 ∧ ∃ n : Nat, m = n ∧ 1 ≤ n ∧ n ≤ 8 := by
  simp only [sizB, Bool.and_eq_true, decide_eq_true_eq] at h
  have h1 := isP_range h.1
  exact ⟨h1.1, h1.2, m.toNat, by omega, by omega, by omega⟩

/-- what the shape says -/
structure Shp (a0 a1 : Nat → Int) (n : Nat) : Prop where
  sh : shB a0 a1 = true
  siz : sizB (a0 0) (a0 1) = true
  size : a0 1 = n
  pos : 1 ≤ n
  le : n ≤ 8
  p0 : 0 < a0 0
  p2 : 2 ≤ a0 0
  p31 : a0 0 ≤ 31
  p255 : a0 0 ≤ 255
  unit : inP (a0 0) (fun z => a1 (0 + z))
  unit0 : ∀ i, i < 8 → n ≤ i → a1 (0 + i) = 0
  mul : ∀ i j, i < 8 → j < 8 → inP (a0 0) (fun z => a1 (8 + i * 64 + (j * 8 + z)))
  mul0 : ∀ i j k, i < 8 → j < 8 → k < 8 → (n ≤ i ∨ n ≤ j ∨ n ≤ k) → a1 (8 + (i * 64 + (j * 8 + k))) = 0

theorem shp_of {a0 a1 : Nat → Int} (h : shB a0 a1 = true) (hb : ∀ i, i < 520 → 0 ≤ a1 i ∧ a1 i ≤ 255) : ∃ n, Shp a0 a1 n := by
  have h0 := h
  simp only [shB, Bool.and_eq_true] at h
  obtain ⟨hs, hv, ht⟩ := h
  obtain ⟨p2, p31, n, hn, n1, n8⟩ := sizB_at hs
  rw [hn] at ht
  refine ⟨n, h0, hs, hn, n1, n8, by omega, p2, p31, by omega, vecB_in hv fun i hi => hb _ (by omega), fun i hi hni => (vecB_at hv hi).2 (by omega), fun i j hi hj z hz => ?_, fun i j k hi hj hk ho => tabB_out ht hi hj hk ho⟩
  have := tabB_in ht (fun i hi => hb _ (by omega)) hi hj z hz
  simp only at this ⊢
  rw [show 8 + i * 64 + (j * 8 + z) = 8 + (i * 64 + (j * 8 + z)) by omega]
  exact this

section
variable {a0 a1 : Nat → Int} {n : Nat}

theorem Shp.mul' (h : Shp a0 a1 n) {i j : Nat} (hi : i < 8) (hj : j < 8) : inP (a0 0) (fun z => a1 (8 + i * 64 + j * 8 + z)) := by
  intro z hz
  have := h.mul i j hi hj z hz
  simp only at this ⊢
  rw [show 8 + i * 64 + j * 8 + z = 8 + i * 64 + (j * 8 + z) by omega]
  exact this

theorem inP_basis {p : Int} (hp : 2 ≤ p) (i : Nat) : inP p (upd (fun _ => 0) i 1) := by
  intro j hj
  show 0 ≤ (if j = i then (1 : Int) else 0) ∧ (if j = i then (1 : Int) else 0) < p
  split <;> omega

/-- the product in an algebra -/
def tm (a0 a1 : Nat → Int) (n : Nat) (v w : Nat → Int) : Nat → Int := timesV (a0 0) n (fun z => a1 (8 + z)) v w

theorem Shp.times (h : Shp a0 a1 n) (K : (Nat → Int) → Option ρ) {v w : Nat → Int} (hv : inP (a0 0) v) (hw : inP (a0 0) w) : spec_l01Times 5000 K a0 a1 v w = K (tm a0 a1 n v w) :=
  spec_times K h.size h.p0 h.p255 h.le hv hw fun i j hi hj => h.mul i j (by have := h.le; omega) (by have := h.le; omega)

theorem Shp.product (h : Shp a0 a1 n) (K : (Nat → Int) → Option ρ) {v w : Nat → Int} (hv : inP (a0 0) v) (hw : inP (a0 0) w) : impl_Algebra_product 5000 K v w a0 a1 = K (tm a0 a1 n v w) :=
  impl_product K h.size h.p0 h.p255 h.le hv hw fun i j hi hj => h.mul i j (by have := h.le; omega) (by have := h.le; omega)

theorem Shp.tm_in (h : Shp a0 a1 n) (v w : Nat → Int) : inP (a0 0) (tm a0 a1 n v w) := inP_acc h.p0

abbrev eb (i : Nat) : Nat → Int := upd (fun _ => 0) i 1

/-- are the products not alike at i, j, k? -/
def bad3 (a0 a1 : Nat → Int) (n i j k : Nat) : Option (Nat × Nat × Nat) :=
  if eqN 8 (tm a0 a1 n (fun z => a1 (8 + i * 64 + j * 8 + z)) (eb k)) (tm a0 a1 n (eb i) (fun z => a1 (8 + j * 64 + k * 8 + z))) = true then none else some (i, j, k)

def fault (a0 a1 : Nat → Int) (n : Nat) : Option (Nat × Nat × Nat) := firstN (fun i => firstN (fun j => firstN (fun k => bad3 a0 a1 n i j k) 0 n) 0 n) 0 n

def tri (t : Nat × Nat × Nat) : Nat → Int := upd (upd (upd (fun _ => 0) 0 (t.1 : Int)) 1 (t.2.1 : Int)) 2 (t.2.2 : Int)

theorem spec_fault (h : Shp a0 a1 n) (K0 : Nat → Nat → Bool → (Nat → Int) → Option ρ) (K1 : Bool → Option ρ) :
    spec_l01Fault 5000 K0 K1 a0 a1 = optK (fault a0 a1 n) (fun t => K0 3 3 true (tri t)) (K1 false) := by
  have hn := h.le
  refine loop_find (l := fun m i => spec_l01Fault.l0 5000 K0 K1 a0 a1 (spec_l01Fault.a0_0 5000 K0 K1) m (i : Int)) (n := n) (fun i => firstN (fun j => firstN (fun k => bad3 a0 a1 n i j k) 0 n) 0 n) (fun t => K0 3 3 true (tri t)) (fun m i hi => ?_) (fun m => ?_) n 0 5000 (by omega) (by omega)
  · simp only [spec_l01Fault.l0, spec_l01Fault.b0]
    have h1 : (i : Int) < n := by omega
    simp only [h.size, h1, decide_true, if_true]
    refine loop_find (l := fun m' j => spec_l01Fault.l1 5000 K0 K1 a0 a1 (i : Int) (spec_l01Fault.a1_0 5000 K0 K1 (spec_l01Fault.l0 5000 K0 K1 a0 a1 (spec_l01Fault.a0_0 5000 K0 K1) m) (spec_l01Fault.a0_0 5000 K0 K1) (i : Int)) m' (j : Int)) (n := n) (fun j => firstN (fun k => bad3 a0 a1 n i j k) 0 n) (fun t => K0 3 3 true (tri t)) (fun m' j hj => ?_) (fun m' => ?_) n 0 5000 (by omega) (by omega)
    · simp only [spec_l01Fault.l1, spec_l01Fault.b1]
      have h1 : (j : Int) < n := by omega
      simp only [h.size, h1, decide_true, if_true]
      refine loop_find (l := fun m'' k => spec_l01Fault.l2 5000 K0 K1 a0 a1 (i : Int) (j : Int) (spec_l01Fault.a2_0 5000 K0 K1 (spec_l01Fault.l1 5000 K0 K1 a0 a1 (i : Int) (spec_l01Fault.a1_0 5000 K0 K1 (spec_l01Fault.l0 5000 K0 K1 a0 a1 (spec_l01Fault.a0_0 5000 K0 K1) m) (spec_l01Fault.a0_0 5000 K0 K1) (i : Int)) m') (spec_l01Fault.a1_0 5000 K0 K1 (spec_l01Fault.l0 5000 K0 K1 a0 a1 (spec_l01Fault.a0_0 5000 K0 K1) m) (spec_l01Fault.a0_0 5000 K0 K1) (i : Int)) (j : Int)) m'' (k : Int)) (n := n) (fun k => bad3 a0 a1 n i j k) (fun t => K0 3 3 true (tri t)) (fun m'' k hk => ?_) (fun m'' => ?_) n 0 5000 (by omega) (by omega)
      · simp only [spec_l01Fault.l2, spec_l01Fault.b2]
        have h1 : (k : Int) < n := by omega
        have g1 : (0 : Int) ≤ i ∧ (i : Int) < 8 := by omega
        have g2 : (0 : Int) ≤ j ∧ (j : Int) < 8 := by omega
        have g3 : (0 : Int) ≤ k ∧ (k : Int) < 8 := by omega
        simp only [h.size, h1, g1, g2, g3, decide_true, if_true, and_self, spec_basis_eq _ (show k < 8 by omega), spec_basis_eq _ (show i < 8 by omega), Int.toNat_natCast, nx (show k < 100000 by omega)]
        rw [h.times _ (h.mul' (by omega) (by omega)) (inP_basis h.p2 _), h.times _ (inP_basis h.p2 _) (h.mul' (by omega) (by omega))]
        unfold bad3 eb
        cases eqN 8 (tm a0 a1 n (fun z => a1 (8 + i * 64 + j * 8 + z)) (upd (fun _ => 0) k 1)) (tm a0 a1 n (upd (fun _ => 0) i 1) (fun z => a1 (8 + j * 64 + k * 8 + z)))
        · simp [tri, optK]
        · simp [optK]
      · simp only [spec_l01Fault.l2, spec_l01Fault.b2, h.size, Int.lt_irrefl, decide_false, Bool.false_eq_true, if_false, spec_l01Fault.a2_0, nx (show j < 100000 by omega)]
    · simp only [spec_l01Fault.l1, spec_l01Fault.b1, h.size, Int.lt_irrefl, decide_false, Bool.false_eq_true, if_false, spec_l01Fault.a1_0, nx (show i < 100000 by omega)]
  · simp only [spec_l01Fault.l0, spec_l01Fault.b0, h.size, Int.lt_irrefl, decide_false, Bool.false_eq_true, if_false, spec_l01Fault.a0_0]

theorem impl_fault (h : Shp a0 a1 n) (K0 : Nat → Nat → (Nat → Int) → Option ρ) (K1 : Option ρ) :
    impl_Algebra_fault 5000 K0 K1 a0 a1 = optK (fault a0 a1 n) (fun t => K0 3 3 (tri t)) K1 := by
  have hn := h.le
  refine loop_find (l := fun m i => impl_Algebra_fault.l0 5000 K0 K1 a0 a1 (impl_Algebra_fault.a0_0 5000 K0 K1) m (i : Int)) (n := n) (fun i => firstN (fun j => firstN (fun k => bad3 a0 a1 n i j k) 0 n) 0 n) (fun t => K0 3 3 (tri t)) (fun m i hi => ?_) (fun m => ?_) n 0 5000 (by omega) (by omega)
  · simp only [impl_Algebra_fault.l0, impl_Algebra_fault.b0]
    have h1 : (i : Int) < n := by omega
    simp only [h.size, h1, decide_true, if_true]
    refine loop_find (l := fun m' j => impl_Algebra_fault.l1 5000 K0 K1 a0 a1 (i : Int) (impl_Algebra_fault.a1_0 5000 K0 K1 (impl_Algebra_fault.l0 5000 K0 K1 a0 a1 (impl_Algebra_fault.a0_0 5000 K0 K1) m) (impl_Algebra_fault.a0_0 5000 K0 K1) (i : Int)) m' (j : Int)) (n := n) (fun j => firstN (fun k => bad3 a0 a1 n i j k) 0 n) (fun t => K0 3 3 (tri t)) (fun m' j hj => ?_) (fun m' => ?_) n 0 5000 (by omega) (by omega)
    · simp only [impl_Algebra_fault.l1, impl_Algebra_fault.b1]
      have h1 : (j : Int) < n := by omega
      simp only [h.size, h1, decide_true, if_true]
      refine loop_find (l := fun m'' k => impl_Algebra_fault.l2 5000 K0 K1 a0 a1 (i : Int) (j : Int) (impl_Algebra_fault.a2_0 5000 K0 K1 (impl_Algebra_fault.l1 5000 K0 K1 a0 a1 (i : Int) (impl_Algebra_fault.a1_0 5000 K0 K1 (impl_Algebra_fault.l0 5000 K0 K1 a0 a1 (impl_Algebra_fault.a0_0 5000 K0 K1) m) (impl_Algebra_fault.a0_0 5000 K0 K1) (i : Int)) m') (impl_Algebra_fault.a1_0 5000 K0 K1 (impl_Algebra_fault.l0 5000 K0 K1 a0 a1 (impl_Algebra_fault.a0_0 5000 K0 K1) m) (impl_Algebra_fault.a0_0 5000 K0 K1) (i : Int)) (j : Int)) m'' (k : Int)) (n := n) (fun k => bad3 a0 a1 n i j k) (fun t => K0 3 3 (tri t)) (fun m'' k hk => ?_) (fun m'' => ?_) n 0 5000 (by omega) (by omega)
      · simp only [impl_Algebra_fault.l2, impl_Algebra_fault.b2]
        have h1 : (k : Int) < n := by omega
        have g1 : (0 : Int) ≤ i ∧ (i : Int) < 8 := by omega
        have g2 : (0 : Int) ≤ j ∧ (j : Int) < 8 := by omega
        have g3 : (0 : Int) ≤ k ∧ (k : Int) < 8 := by omega
        simp only [h.size, h1, g1, g2, g3, decide_true, if_true, and_self, impl_basis_eq _ (show k < 8 by omega), impl_basis_eq _ (show i < 8 by omega), Int.toNat_natCast, nx (show k < 100000 by omega)]
        rw [h.product _ (h.mul' (by omega) (by omega)) (inP_basis h.p2 _), h.product _ (inP_basis h.p2 _) (h.mul' (by omega) (by omega))]
        unfold bad3 eb
        cases eqN 8 (tm a0 a1 n (fun z => a1 (8 + i * 64 + j * 8 + z)) (upd (fun _ => 0) k 1)) (tm a0 a1 n (upd (fun _ => 0) i 1) (fun z => a1 (8 + j * 64 + k * 8 + z)))
        · simp [tri, optK]
        · simp [optK]
      · simp only [impl_Algebra_fault.l2, impl_Algebra_fault.b2, h.size, Int.lt_irrefl, decide_false, Bool.false_eq_true, if_false, impl_Algebra_fault.a2_0, nx (show j < 100000 by omega)]
    · simp only [impl_Algebra_fault.l1, impl_Algebra_fault.b1, h.size, Int.lt_irrefl, decide_false, Bool.false_eq_true, if_false, impl_Algebra_fault.a1_0, nx (show i < 100000 by omega)]
  · simp only [impl_Algebra_fault.l0, impl_Algebra_fault.b0, h.size, Int.lt_irrefl, decide_false, Bool.false_eq_true, if_false, impl_Algebra_fault.a0_0]

/-! units -/

def unB (a0 a1 : Nat → Int) (n : Nat) : Bool :=
  allN (fun i => eqN 8 (tm a0 a1 n (fun z => a1 (0 + z)) (eb i)) (eb i) && eqN 8 (tm a0 a1 n (eb i) (fun z => a1 (0 + z))) (eb i)) 0 n

/-- is it an algebra? -/
def algB (a0 a1 : Nat → Int) : Bool := shB a0 a1 && (unB a0 a1 (a0 1).toNat && (fault a0 a1 (a0 1).toNat).isNone)

theorem spec_is (hb : ∀ i, i < 520 → 0 ≤ a1 i ∧ a1 i ≤ 255) (K : Bool → Option ρ) : spec_l01Is 5000 K a0 a1 = K (algB a0 a1) := by
  simp only [spec_l01Is, spec_l01Is.s, spec_shape]
  by_cases hs : shB a0 a1 = true
  · obtain ⟨n, h⟩ := shp_of hs hb
    have hn := h.le
    have e : (a0 1).toNat = n := by rw [h.size]; rfl
    simp only [hs, Bool.not_true, Bool.false_eq_true, if_false, algB, Bool.true_and, e]
    refine (loop_all (l := fun m i => spec_l01Is.l0 5000 K a0 a1 (spec_l01Is.a0_0 5000 K a0 a1) m (i : Int)) (n := n) (fun i => eqN 8 (tm a0 a1 n (fun z => a1 (0 + z)) (eb i)) (eb i) && eqN 8 (tm a0 a1 n (eb i) (fun z => a1 (0 + z))) (eb i)) (no := K false) (out := K (fault a0 a1 n).isNone) (fun m i hi => ?_) (fun m => ?_) n 0 5000 (by omega) (by omega)).trans ?_
    · simp only [spec_l01Is.l0, spec_l01Is.b0]
      have h1 : (i : Int) < n := by omega
      simp only [h.size, h1, decide_true, if_true, spec_basis_eq _ (show i < 8 by omega), nx (show i < 100000 by omega)]
      rw [h.times _ h.unit (inP_basis h.p2 _)]
      unfold eb
      cases eqN 8 (tm a0 a1 n (fun z => a1 (0 + z)) (upd (fun _ => 0) i 1)) (upd (fun _ => 0) i 1)
      · simp
      · simp only [Bool.not_true, Bool.false_eq_true, if_false, Bool.true_and]
        rw [h.times _ (inP_basis h.p2 _) h.unit]
        cases eqN 8 (tm a0 a1 n (upd (fun _ => 0) i 1) (fun z => a1 (0 + z))) (upd (fun _ => 0) i 1) <;> simp
    · simp only [spec_l01Is.l0, spec_l01Is.b0, h.size, Int.lt_irrefl, decide_false, Bool.false_eq_true, if_false, spec_l01Is.a0_0]
      rw [spec_fault h]
      cases fault a0 a1 n <;> rfl
    · show _ = K (unB a0 a1 n && _)
      unfold unB
      split
      · rename_i hu; first | (rw [hu]; rfl) | (rw [Bool.eq_false_iff.2 hu]; rfl)
      · rename_i hu; first | (rw [hu]; rfl) | (rw [Bool.eq_false_iff.2 hu]; rfl)
  · have hs' : shB a0 a1 = false := by simpa using hs
    simp [hs', algB]

theorem impl_is (hb : ∀ i, i < 520 → 0 ≤ a1 i ∧ a1 i ≤ 255) (K : Bool → Option ρ) : impl_IsAlgebra 5000 K a0 a1 = K (algB a0 a1) := by
  simp only [impl_IsAlgebra, impl_IsAlgebra.s, impl_shape]
  by_cases hs : shB a0 a1 = true
  · obtain ⟨n, h⟩ := shp_of hs hb
    have hn := h.le
    have e : (a0 1).toNat = n := by rw [h.size]; rfl
    simp only [hs, Bool.not_true, Bool.false_eq_true, if_false, algB, Bool.true_and, e]
    refine (loop_all (l := fun m i => impl_IsAlgebra.l0 5000 K a0 a1 (impl_IsAlgebra.a0_0 5000 K a0 a1) m (i : Int)) (n := n) (fun i => eqN 8 (tm a0 a1 n (fun z => a1 (0 + z)) (eb i)) (eb i) && eqN 8 (tm a0 a1 n (eb i) (fun z => a1 (0 + z))) (eb i)) (no := K false) (out := K (fault a0 a1 n).isNone) (fun m i hi => ?_) (fun m => ?_) n 0 5000 (by omega) (by omega)).trans ?_
    · simp only [impl_IsAlgebra.l0, impl_IsAlgebra.b0]
      have h1 : (i : Int) < n := by omega
      simp only [h.size, h1, decide_true, if_true, impl_basis_eq _ (show i < 8 by omega), nx (show i < 100000 by omega)]
      rw [h.product _ h.unit (inP_basis h.p2 _)]
      unfold eb
      cases eqN 8 (tm a0 a1 n (fun z => a1 (0 + z)) (upd (fun _ => 0) i 1)) (upd (fun _ => 0) i 1)
      · simp
      · simp only [Bool.not_true, Bool.false_eq_true, if_false, Bool.true_and]
        rw [h.product _ (inP_basis h.p2 _) h.unit]
        cases eqN 8 (tm a0 a1 n (upd (fun _ => 0) i 1) (fun z => a1 (0 + z))) (upd (fun _ => 0) i 1) <;> simp
    · simp only [impl_IsAlgebra.l0, impl_IsAlgebra.b0, h.size, Int.lt_irrefl, decide_false, Bool.false_eq_true, if_false, impl_IsAlgebra.a0_0]
      rw [impl_fault h]
      cases fault a0 a1 n <;> rfl
    · show _ = K (unB a0 a1 n && _)
      unfold unB
      split
      · rename_i hu; first | (rw [hu]; rfl) | (rw [Bool.eq_false_iff.2 hu]; rfl)
      · rename_i hu; first | (rw [hu]; rfl) | (rw [Bool.eq_false_iff.2 hu]; rfl)
  · have hs' : shB a0 a1 = false := by simpa using hs
    simp [hs', algB]

end
end Go.Proofs.Ytacdnmdfoimjcaa.H
