/- Opposites, dual coalgebras and products of algebras: the laws' own values are true, for all whole numbers and bytes. -/
import Derived.Test.YtmjpfchbkolcbaaHV6c
namespace Go.Proofs.Ytmjpfchbkolcbaa.H
set_option linter.unusedVariables false
set_option linter.unusedSimpArgs false
open Go Go.RowKit Go.Proofs.Ytmjpfchbkolcbaa.Hx
set_option linter.unusedVariables false
set_option linter.unusedSimpArgs false
set_option maxRecDepth 100000

variable {ρ : Type}

/-! OppositeAlgebra -/

def osTo (n : Nat) (t : Nat → Int) (i k : Nat) : Nat → Int := fun x => if x < 512 ∧ x / 8 % 8 < n ∧ (x / 64 < i ∨ (x / 64 = i ∧ x / 8 % 8 < k)) then t ((x / 8 % 8) * 64 + (x / 64) * 8 + x % 8) else 0

theorem osTo_zero {n : Nat} {t : Nat → Int} : osTo n t 0 0 = fun _ => 0 := by
  funext x; unfold osTo; rw [if_neg (by omega)]

theorem osTo_k {n : Nat} {t : Nat → Int} {i k : Nat} (hi : i < 8) (hk : k < 8) (hkn : k < n) : updN (osTo n t i k) (i * 64 + k * 8) 8 (fun z => t (k * 64 + i * 8 + z)) = osTo n t i (k + 1) := by
  funext x
  unfold updN osTo
  by_cases h0 : i * 64 + k * 8 ≤ x ∧ x < i * 64 + k * 8 + 8
  · have e1 : x / 64 = i := by omega
    have e2 : x / 8 % 8 = k := by omega
    rw [if_pos h0, e1, e2, if_pos (show x < 512 ∧ k < n ∧ (i < i ∨ i = i ∧ k < k + 1) by omega)]
    show t (k * 64 + i * 8 + (x - (i * 64 + k * 8))) = t (k * 64 + i * 8 + x % 8)
    congr 1; omega
  · rw [if_neg h0]
    have e : ¬ (x < 512 ∧ x / 64 = i ∧ x / 8 % 8 = k) := by omega
    generalize x / 64 = I at e ⊢
    generalize x / 8 % 8 = J at e ⊢
    congr 1
    apply propext
    omega

theorem osTo_i {n : Nat} {t : Nat → Int} {i : Nat} : osTo n t i n = osTo n t (i + 1) 0 := by
  funext x
  unfold osTo
  congr 1
  apply propext
  omega

theorem spec_opposite (K : (Nat → Int) → Option ρ) (t : Nat → Int) {n : Nat} (hn : n ≤ 8) : spec_l01Opposite 1000 K (n : Int) t = K (osTo n t n 0) := by
  rw [spec_l01Opposite, spec_l01Opposite.s]
  refine loop_at (n := n) (fun i => osTo n t i 0) osTo_zero.symm (fun m i hi => ?_) (fun m => ?_) (by omega)
  · simp only [spec_l01Opposite.l0, spec_l01Opposite.b0]
    have h1 : (i : Int) < n := by omega
    have h2 : (0 : Int) ≤ i ∧ (i : Int) < 8 := by omega
    simp only [h1, decide_true, if_true]
    refine loop_at (n := n) (fun k => osTo n t i k) rfl (fun m' k hk => ?_) (fun m' => ?_) (by omega)
    · simp only [spec_l01Opposite.l1, spec_l01Opposite.b1]
      have g1 : (k : Int) < n := by omega
      have g2 : (0 : Int) ≤ k ∧ (k : Int) < 8 := by omega
      simp only [g1, g2, h2, decide_true, if_true, and_self, Int.toNat_natCast, nx (show k < 100000 by omega), osTo_k (show i < 8 by omega) (show k < 8 by omega) hk]
    · simp only [spec_l01Opposite.l1, spec_l01Opposite.b1, Int.lt_irrefl, decide_false, Bool.false_eq_true, if_false, spec_l01Opposite.a1_0, nx (show i < 100000 by omega), osTo_i]
  · simp only [spec_l01Opposite.l0, spec_l01Opposite.b0, Int.lt_irrefl, decide_false, Bool.false_eq_true, if_false, spec_l01Opposite.a0_0]

theorem opp_same {a0 a1 : Nat → Int} {n : Nat} (h : Shp a0 a1 n) (x : Nat) (hx : x < 520) : oppTo a1 64 x = updN a1 8 512 (osTo n (fun z => a1 (8 + z)) n 0) x := by
  have hn := h.le
  by_cases h8 : x < 8
  · unfold oppTo updN
    rw [if_neg (by omega), if_neg (by omega)]
  · obtain ⟨i, j, z, hi, hj, hz, e⟩ := split3 (show x - 8 < 512 by omega)
    have ex : x = 8 + (i * 64 + j * 8 + z) := by omega
    subst ex
    rw [opp_at hi hj hz]
    unfold updN osTo
    rw [if_pos (by omega), show 8 + (i * 64 + j * 8 + z) - 8 = i * 64 + j * 8 + z by omega, pl_div8 hz, pl_mod8 hz, pl_div64 hj hz, show (i * 8 + j) % 8 = j by omega]
    by_cases hc : i < n ∧ j < n
    · rw [if_pos (by omega)]
    · rw [if_neg (by omega)]
      have := h.mul0 j i z hj hi hz (by omega)
      rw [show j * 64 + i * 8 + z = j * 64 + (i * 8 + z) by omega]
      exact this

theorem fnExactOppositeAlgebra_law (K : Bool → Option ρ) (a0 a1 : Nat → Int) (h0 : ∀ i, IntKind.i64.has (a0 i)) (h1 : ∀ i, IntKind.u8.has (a1 i)) : laws_FnExactOppositeAlgebra 1000 K a0 a1 = K true := by
  rw [laws_FnExactOppositeAlgebra]
  simp only [toAlgebra_eq]
  simp only [spec_OppositeAlgebra, impl_OppositeAlgebra, spec_is (keepN_byte h1), impl_code0 (keepN_byte h1)]
  by_cases hc : algB (keepN 2 a0) (keepN 520 a1) = true
  · obtain ⟨n, h⟩ := algB_shp hc (keepN_byte h1)
    simp only [hc, if_true, bne_self_eq_false, Bool.false_eq_true, if_false, Bool.not_true, h.size, spec_opposite _ _ h.le, impl_opposite]
    rw [eqAlgebra_of _ rfl rfl (opp_same h)]
    simp
  · rw [Bool.not_eq_true] at hc
    simp only [hc, Bool.false_eq_true, if_false]
    simp [eqAlgebra_self]

/-! DualCoalgebra -/

theorem fnExactDualCoalgebra_law (K : Bool → Option ρ) (a0 a1 : Nat → Int) (h0 : ∀ i, IntKind.i64.has (a0 i)) (h1 : ∀ i, IntKind.u8.has (a1 i)) : laws_FnExactDualCoalgebra 1000 K a0 a1 = K true := by
  rw [laws_FnExactDualCoalgebra]
  simp only [toAlgebra_eq]
  simp only [spec_DualCoalgebra, impl_DualCoalgebra, spec_is (keepN_byte h1), impl_code0 (keepN_byte h1)]
  by_cases hc : algB (keepN 2 a0) (keepN 520 a1) = true
  · simp only [hc, if_true, bne_self_eq_false, Bool.false_eq_true, if_false, Bool.not_true, spec_turned, turn_twice, impl_dualTable_eq, eqCoalgebra_self]
  · rw [Bool.not_eq_true] at hc
    simp only [hc, Bool.false_eq_true, if_false]
    simp [eqCoalgebra_self]

/-! ProductAlgebra -/

section
variable {a0 a1 b0 b1 : Nat → Int} {n q : Nat}

theorem spec_prLoop (K : (Nat → Int) → (Nat → Int) → Int → Option ρ) (ha : a0 1 = n) (hb : b0 1 = q) (hq : n + q ≤ 8) :
    spec_ProductAlgebra.l0 1000 K a0 b0 b1 (fun o => spec_ProductAlgebra.a0_0 1000 K a0 b0 o) 1000 0 a1 = K (upd a0 1 ((n + q : Nat) : Int)) (prS n q a1 b1 q q 0 0) 0 := by
  refine loop_at (n := q) (fun i => prS n q a1 b1 i i 0 0) prS_zero.symm (fun m i hi => ?_) (fun m => ?_) (by omega)
  · simp only [spec_ProductAlgebra.l0, spec_ProductAlgebra.b0]
    have h1 : (i : Int) < q := by omega
    have h2 : (0 : Int) ≤ i ∧ (i : Int) < 8 := by omega
    have wi : IntKind.i64.wrap ((n : Int) + i) = ((n + i : Nat) : Int) := by rw [wrap64_id (by omega) (by omega)]; omega
    have h3 : (0 : Int) ≤ ((n + i : Nat) : Int) ∧ ((n + i : Nat) : Int) < 8 := by omega
    simp only [ha, hb, h1, h2, wi, h3, decide_true, if_true, and_self, Int.toNat_natCast, Nat.mul_one, Nat.zero_add, prS_unit hi hq]
    refine loop_at (n := q) (fun k => prS n q a1 b1 (i + 1) i k 0) rfl (fun m' k hk => ?_) (fun m' => ?_) (by omega)
    · simp only [spec_ProductAlgebra.l1, spec_ProductAlgebra.b1]
      have g1 : (k : Int) < q := by omega
      simp only [hb, g1, decide_true, if_true]
      refine loop_at (n := q) (fun j => prS n q a1 b1 (i + 1) i k j) rfl (fun m'' j hj => ?_) (fun m'' => ?_) (by omega)
      · simp only [spec_ProductAlgebra.l2, spec_ProductAlgebra.b2]
        have f1 : (j : Int) < q := by omega
        have f2 : (0 : Int) ≤ j ∧ (j : Int) < 8 := by omega
        have g2 : (0 : Int) ≤ k ∧ (k : Int) < 8 := by omega
        have wk : IntKind.i64.wrap ((n : Int) + k) = ((n + k : Nat) : Int) := by rw [wrap64_id (by omega) (by omega)]; omega
        have wj : IntKind.i64.wrap ((n : Int) + j) = ((n + j : Nat) : Int) := by rw [wrap64_id (by omega) (by omega)]; omega
        have g3 : (0 : Int) ≤ ((n + k : Nat) : Int) ∧ ((n + k : Nat) : Int) < 8 := by omega
        have f3 : (0 : Int) ≤ ((n + j : Nat) : Int) ∧ ((n + j : Nat) : Int) < 8 := by omega
        simp only [ha, hb, f1, f2, g2, h2, wi, wk, wj, h3, g3, f3, decide_true, if_true, and_self, Int.toNat_natCast, Nat.mul_one, nx (show j < 100000 by omega), prS_m hi hk hj hq]
      · simp only [spec_ProductAlgebra.l2, spec_ProductAlgebra.b2, hb, Int.lt_irrefl, decide_false, Bool.false_eq_true, if_false, spec_ProductAlgebra.a2_0, nx (show k < 100000 by omega), prS_k hk]
    · simp only [spec_ProductAlgebra.l1, spec_ProductAlgebra.b1, hb, Int.lt_irrefl, decide_false, Bool.false_eq_true, if_false, spec_ProductAlgebra.a1_0, nx (show i < 100000 by omega), prS_i hi]
  · have w : IntKind.i64.wrap ((n : Int) + q) = ((n + q : Nat) : Int) := by rw [wrap64_id (by omega) (by omega)]; omega
    simp only [spec_ProductAlgebra.l0, spec_ProductAlgebra.b0, ha, hb, Int.lt_irrefl, decide_false, Bool.false_eq_true, if_false, spec_ProductAlgebra.a0_0, w]

theorem impl_prLoop (K : (Nat → Int) → (Nat → Int) → Int → Option ρ) {A : Nat → Int} (ha : a0 1 = n) (hb : b0 1 = q) (hq : n + q ≤ 8) (hz : ∀ i j z, i < 8 → j < 8 → z < 8 → q ≤ z → b1 (8 + (i * 64 + (j * 8 + z))) = 0) :
    impl_ProductAlgebra.l0 1000 K a0 b0 b1 (fun o => impl_ProductAlgebra.a0_0 1000 K a0 b0 o) 1000 0 A = K (upd (upd (fun _ => 0) 0 (a0 0)) 1 ((n + q : Nat) : Int)) (prT n q A b1 q 0) 0 := by
  refine loop_at (n := q) (fun i => prT n q A b1 i 0) prT_zero.symm (fun m i hi => ?_) (fun m => ?_) (by omega)
  · simp only [impl_ProductAlgebra.l0, impl_ProductAlgebra.b0]
    have h1 : (i : Int) < q := by omega
    have h2 : (0 : Int) ≤ i ∧ (i : Int) < 8 := by omega
    have wi : IntKind.i64.wrap ((n : Int) + i) = ((n + i : Nat) : Int) := by rw [wrap64_id (by omega) (by omega)]; omega
    have h3 : (0 : Int) ≤ ((n + i : Nat) : Int) ∧ ((n + i : Nat) : Int) < 8 := by omega
    simp only [hb, h1, decide_true, if_true]
    refine loop_at (n := q) (fun j => prT n q A b1 i j) rfl (fun m' j hj => ?_) (fun m' => ?_) (by omega)
    · simp only [impl_ProductAlgebra.l1, impl_ProductAlgebra.b1]
      have f1 : (j : Int) < q := by omega
      have f2 : (0 : Int) ≤ j ∧ (j : Int) < 8 := by omega
      have wj : IntKind.i64.wrap ((n : Int) + j) = ((n + j : Nat) : Int) := by rw [wrap64_id (by omega) (by omega)]; omega
      have f3 : (0 : Int) ≤ ((n + j : Nat) : Int) ∧ ((n + j : Nat) : Int) < 8 := by omega
      simp only [ha, hb, f1, f2, h2, wi, wj, h3, f3, decide_true, if_true, and_self, Int.toNat_natCast]
      rw [impl_moved_eq _ (by omega) (fun z hz8 hzn => by
        have := hz i j z (by omega) (by omega) hz8 (by omega)
        rw [show 8 + i * 64 + j * 8 + z = 8 + (i * 64 + (j * 8 + z)) by omega]
        exact this)]
      simp only [nx (show j < 100000 by omega), prT_j hi hj hq]
    · simp only [impl_ProductAlgebra.l1, impl_ProductAlgebra.b1, hb, Int.lt_irrefl, decide_false, Bool.false_eq_true, if_false, impl_ProductAlgebra.a1_0, nx (show i < 100000 by omega), prT_i hi]
  · have w : IntKind.i64.wrap ((n : Int) + q) = ((n + q : Nat) : Int) := by rw [wrap64_id (by omega) (by omega)]; omega
    simp only [impl_ProductAlgebra.l0, impl_ProductAlgebra.b0, ha, hb, Int.lt_irrefl, decide_false, Bool.false_eq_true, if_false, impl_ProductAlgebra.a0_0, w]

theorem first4_any (K : Int → Option ρ) (g : Nat → Int) {m c : Nat} (hm : m < 900) : impl_first_s4 1000 K m c g = optK (firstN (fun i => if g i = 0 then none else some (g i)) 0 m) K (K 0) := by
  rw [impl_first_s4, impl_first_s4.s]
  refine find_at (n := m) (fun i => if g i = 0 then none else some (g i)) K (fun k i hi => ?_) (fun k => ?_) (by omega)
  · simp only [impl_first_s4.l0, impl_first_s4.b0]
    have h1 : (i : Int) < m := by omega
    have h2 : (0 : Int) ≤ i ∧ (i : Int) < m := by omega
    simp only [h1, h2, decide_true, if_true, and_self, Int.toNat_natCast, Nat.mul_one, Nat.zero_add, nx (show i < 100000 by omega)]
    by_cases hg : g i = 0
    · simp [hg, optK]
    · simp [hg, optK]
  · simp only [impl_first_s4.l0, impl_first_s4.b0, Int.lt_irrefl, decide_false, Bool.false_eq_true, if_false, impl_first_s4.a0_0]

theorem first4 (K : Int → Option ρ) (x y z u : Int) : impl_first_s4 1000 K 4 4 (fun w => upd (upd (upd (upd (fun _ => 0) 0 x) 1 y) 2 z) 3 u (0 + w)) = if x ≠ 0 then K x else if y ≠ 0 then K y else if z ≠ 0 then K z else K u := by
  rw [first4_any _ _ (by omega)]
  have e0 : upd (upd (upd (upd (fun _ => 0) 0 x) 1 y) 2 z) 3 u 0 = x := by simp [upd]
  have e1 : upd (upd (upd (upd (fun _ => 0) 0 x) 1 y) 2 z) 3 u 1 = y := by simp [upd]
  have e2 : upd (upd (upd (upd (fun _ => 0) 0 x) 1 y) 2 z) 3 u 2 = z := by simp [upd]
  have e3 : upd (upd (upd (upd (fun _ => 0) 0 x) 1 y) 2 z) 3 u 3 = u := by simp [upd]
  simp only [firstN, Nat.zero_add, Nat.reduceAdd, e0, e1, e2, e3]
  by_cases hx : x = 0
  · by_cases hy : y = 0
    · by_cases hz : z = 0
      · by_cases hu : u = 0
        · simp [hx, hy, hz, hu, optK]
        · simp [hx, hy, hz, hu, optK]
      · simp [hx, hy, hz, optK]
    · simp [hx, hy, optK]
  · simp [hx, optK]

/-- both tables are alike -/
theorem pr_same (h : Shp a0 a1 n) (g : Shp b0 b1 q) (hp : a0 0 = b0 0) (hq : n + q ≤ 8) {A : Nat → Int}
    (hA : ∀ x, x < 8 → A x = (a1 (0 + x) + 1 * mvTo (fun z => b1 (0 + z)) n 8 x) % a0 0) (hA' : ∀ x, 8 ≤ x → x < 520 → A x = a1 x) (x : Nat) (hx : x < 520) :
    prT n q A b1 q 0 x = prS n q a1 b1 q q 0 0 x := by
  have hn := h.le
  by_cases h8 : x < 8
  · unfold prT prS
    rw [if_neg (by omega), if_pos h8, hA x h8]
    have r1 := h.unit x h8
    simp only [Nat.zero_add] at r1 ⊢
    unfold mvTo
    by_cases c1 : x < n
    · rw [if_neg (by omega), if_neg (by omega), Int.mul_zero, Int.add_zero, Int.emod_eq_of_lt r1.1 r1.2]
    · have z1 := h.unit0 x h8 (by omega)
      rw [Nat.zero_add] at z1
      rw [if_pos (by omega), z1]
      have r2 := g.unit (x - n) (by omega)
      simp only [Nat.zero_add] at r2
      rw [← hp] at r2
      rw [Int.zero_add, Int.one_mul, Int.emod_eq_of_lt r2.1 r2.2]
      by_cases c2 : x < n + q
      · rw [if_pos (by omega)]
      · rw [if_neg (by omega)]
        have z2 := g.unit0 (x - n) (by omega) (by omega)
        rw [Nat.zero_add] at z2
        rw [z2]
  · obtain ⟨i, j, z, hi, hj, hz, e⟩ := split3 (show x - 8 < 512 by omega)
    unfold prT prS
    rw [if_neg h8, hA' x (by omega) hx, e, pl_div64 hj hz, pl_div8 hz, pl_mod8 hz, show (i * 8 + j) % 8 = j by omega]
    by_cases c : n ≤ i ∧ n ≤ j ∧ j < n + q ∧ i < n + q
    · rw [if_pos (by omega)]
      have z1 := h.mul0 i j z hi hj hz (by omega)
      rw [show 8 + (i * 64 + (j * 8 + z)) = x by omega] at z1
      by_cases c1 : n ≤ z
      · rw [if_pos c1]
        by_cases c2 : z < n + q
        · rw [if_pos (by omega)]
        · rw [if_neg (by omega), z1]
          have z2 := g.mul0 (i - n) (j - n) (z - n) (by omega) (by omega) (by omega) (by omega)
          rw [show 8 + (i - n) * 64 + (j - n) * 8 + (z - n) = 8 + ((i - n) * 64 + ((j - n) * 8 + (z - n))) by omega]
          exact z2
      · rw [if_neg c1, if_neg (by omega), z1]
    · rw [if_neg (by omega), if_neg (by omega)]

end

theorem fnExactProductAlgebra_law (K : Bool → Option ρ) (a0 a1 b0 b1 : Nat → Int) (h0 : ∀ i, IntKind.i64.has (a0 i)) (h1 : ∀ i, IntKind.u8.has (a1 i)) (h2 : ∀ i, IntKind.i64.has (b0 i)) (h3 : ∀ i, IntKind.u8.has (b1 i)) : laws_FnExactProductAlgebra 1000 K a0 a1 b0 b1 = K true := by
  rw [laws_FnExactProductAlgebra]
  simp only [toAlgebra_eq]
  rw [spec_ProductAlgebra, spec_ProductAlgebra.s]
  simp only [spec_is (keepN_byte h1), spec_is (keepN_byte h3)]
  simp only [impl_ProductAlgebra, impl_ProductAlgebra.s, impl_code0 (keepN_byte h1), impl_code0 (keepN_byte h3), impl_unless_eq, first4]
  by_cases ha : algB (keepN 2 a0) (keepN 520 a1) = true
  · by_cases hb : algB (keepN 2 b0) (keepN 520 b1) = true
    · obtain ⟨n, h⟩ := algB_shp ha (keepN_byte h1)
      obtain ⟨q, g⟩ := algB_shp hb (keepN_byte h3)
      have hn := h.le
      have hq := g.le
      have w : IntKind.i64.wrap (keepN 2 a0 1 + keepN 2 b0 1) = ((n + q : Nat) : Int) := by rw [h.size, g.size, wrap64_id (by omega) (by omega)]; omega
      simp only [ha, hb, w, Bool.not_true, Bool.false_eq_true, if_false, if_true]
      by_cases hp : keepN 2 a0 0 = keepN 2 b0 0
      · by_cases hs : n + q ≤ 8
        · have e1 : ¬ ((n + q : Nat) : Int) > 8 := by omega
          have e2 : ((n + q : Nat) : Int) ≤ 8 := by omega
          have eb : (keepN 2 a0 0 == keepN 2 b0 0) = true := by simpa using hp
          have eb' : (keepN 2 a0 0 != keepN 2 b0 0) = false := by simp [hp]
          simp only [eb, eb', e1, e2, decide_true, decide_false, Bool.false_eq_true, if_false, if_true]
          rw [spec_prLoop _ h.size g.size hs]
          have m8 : ∀ i, i < 8 → 8 ≤ i + n → (fun z => keepN 520 b1 (0 + z)) i = 0 := fun i hi hin => g.unit0 i hi (by omega)
          simp only [ne_eq, not_true_eq_false, if_false, bne_self_eq_false, Bool.false_eq_true, impl_Algebra_field, h.size, impl_moved_eq _ hn m8]
          have f0 : upd (upd (fun _ => 0) 0 (upd (upd (fun _ => 0) 0 (keepN 2 a0 0)) 1 ((n + q : Nat) : Int) 0)) 1 (upd (upd (fun _ => 0) 0 (keepN 2 a0 0)) 1 ((n + q : Nat) : Int) 1) 0 = keepN 2 a0 0 := by simp [upd]
          generalize hr : upd (upd (fun _ => 0) 0 (upd (upd (fun _ => 0) 0 (keepN 2 a0 0)) 1 ((n + q : Nat) : Int) 0)) 1 (upd (upd (fun _ => 0) 0 (keepN 2 a0 0)) 1 ((n + q : Nat) : Int) 1) = r at f0 ⊢
          have um : ∀ z, z < 8 → updN (updN (fun _ => 0) 8 512 (fun z => keepN 520 a1 (8 + z))) 0 8 (fun z => keepN 520 a1 (0 + z)) (0 + z) = keepN 520 a1 (0 + z) := by
            intro z hz
            unfold updN
            rw [if_pos (by omega)]
            congr 1; omega
          rw [impl_plus _ (by rw [f0]; exact h.p0) (by rw [f0]; exact h.p255) (by
              rw [f0]; intro z hz
              show 0 ≤ updN _ _ _ _ (0 + z) ∧ updN _ _ _ _ (0 + z) < _
              rw [um z hz]; exact h.unit z hz) (by
              intro z hz
              unfold mvTo
              split
              · exact keepN_byte' h3 _
              · omega) (by omega) (by omega)]
          rw [impl_prLoop _ h.size g.size hs (fun i j z hi hj hz hqz => g.mul0 i j z hi hj hz (by omega))]
          rw [eqAlgebra_of _ (by simp [upd]) (by simp [upd]) (pr_same h g hp hs ?_ ?_)]
          · simp
          · intro x hx
            show updN _ 0 8 _ x = _
            unfold updN
            rw [if_pos (by omega)]
            unfold addV
            simp only [Nat.sub_zero, hx, if_true, f0]
            rw [if_pos (show 0 ≤ 0 + x ∧ 0 + x < 0 + 8 by omega)]
            simp only [Nat.zero_add]
          · intro x hx hx'
            unfold updN
            rw [if_neg (by omega), if_neg (by omega), if_pos (by omega)]
            show keepN 520 a1 (8 + (x - 8)) = keepN 520 a1 x
            congr 1; omega
        · have e1 : ((n + q : Nat) : Int) > 8 := by omega
          have e2 : ¬ ((n + q : Nat) : Int) ≤ 8 := by omega
          have eb : (keepN 2 a0 0 == keepN 2 b0 0) = true := by simpa using hp
          have eb' : (keepN 2 a0 0 != keepN 2 b0 0) = false := by simp [hp]
          simp only [eb, eb', e1, e2, decide_true, decide_false, Bool.false_eq_true, if_false, if_true]
          simp [eqAlgebra_self]
      · have eb : (keepN 2 a0 0 == keepN 2 b0 0) = false := by simpa using hp
        have eb' : (keepN 2 a0 0 != keepN 2 b0 0) = true := by simpa using hp
        simp only [eb, eb', Bool.false_eq_true, if_false, if_true]
        simp [eqAlgebra_self]
    · rw [Bool.not_eq_true] at hb
      simp only [ha, hb, Bool.false_eq_true, if_false, if_true]
      simp [eqAlgebra_self]
  · rw [Bool.not_eq_true] at ha
    simp only [ha, Bool.false_eq_true, if_false]
    simp [eqAlgebra_self]

end Go.Proofs.Ytmjpfchbkolcbaa.H
