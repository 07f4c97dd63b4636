/- Comparisons, lists of vectors, rows: told alike by the reference and the program. -/
import Derived.Test.YthecjjnieojjoaaHV3
namespace Go.Proofs.Ythecjjnieojjoaa.H
set_option linter.unusedVariables false
set_option linter.unusedSimpArgs false
open Go Go.RowKit Go.Proofs.Ythecjjnieojjoaa.Hx
set_option linter.unusedVariables false
set_option linter.unusedSimpArgs false
set_option maxRecDepth 100000

variable {ρ : Type}

theorem eqVector_of (K : Bool → Option ρ) {a b : Nat → Int} (h : ∀ z, z < 8 → a z = b z) : laws_eqVector 5000 K a b = K true := by
  refine loop_go (l := fun m i => laws_eqVector.l0 5000 K a b (laws_eqVector.a0_0 5000 K) m (i : Int)) (n := 8) (fun m i hi => ?_) (fun m => ?_) 8 0 5000 (by omega) (by omega)
  · simp only [laws_eqVector.l0, laws_eqVector.b0]
    have h1 : (i : Int) < 8 := by omega
    have h2 : (0 : Int) ≤ i ∧ (i : Int) < 8 := by omega
    simp [h1, h2, h i hi, nx (show i < 100000 by omega)]
  · rfl

theorem eqLinear_of (K : Bool → Option ρ) {a b : Nat → Int} (h : ∀ z, z < 64 → a z = b z) : laws_eqLinear 5000 K a b = K true := by
  refine loop_go (l := fun m i => laws_eqLinear.l0 5000 K a b (laws_eqLinear.a0_0 5000 K) m (i : Int)) (n := 8) (fun m i hi => ?_) (fun m => ?_) 8 0 5000 (by omega) (by omega)
  · simp only [laws_eqLinear.l0, laws_eqLinear.b0]
    have h1 : (i : Int) < 8 := by omega
    have h2 : (0 : Int) ≤ i ∧ (i : Int) < 8 := by omega
    simp only [h1, h2, decide_true, if_true, and_self, Int.toNat_natCast]
    rw [eqVector_of _ fun z hz => h _ (by omega)]
    simp [nx (show i < 100000 by omega)]
  · rfl

theorem eqTable_of (K : Bool → Option ρ) {a b : Nat → Int} (h : ∀ z, z < 512 → a z = b z) : laws_eqTable 5000 K a b = K true := by
  refine loop_go (l := fun m i => laws_eqTable.l0 5000 K a b (laws_eqTable.a0_0 5000 K) m (i : Int)) (n := 8) (fun m i hi => ?_) (fun m => ?_) 8 0 5000 (by omega) (by omega)
  · simp only [laws_eqTable.l0, laws_eqTable.b0]
    have h1 : (i : Int) < 8 := by omega
    have h2 : (0 : Int) ≤ i ∧ (i : Int) < 8 := by omega
    simp only [h1, h2, decide_true, if_true, and_self, Int.toNat_natCast]
    rw [eqLinear_of _ fun z hz => h _ (by omega)]
    simp [nx (show i < 100000 by omega)]
  · rfl

theorem eqAlgebra_of (K : Bool → Option ρ) {a0 a1 b0 b1 : Nat → Int} (h0 : a0 0 = b0 0) (h1 : a0 1 = b0 1) (h : ∀ z, z < 520 → a1 z = b1 z) : laws_eqAlgebra 5000 K a0 a1 b0 b1 = K true := by
  simp only [laws_eqAlgebra, h0, h1, bne_self_eq_false, Bool.false_eq_true, if_false]
  rw [eqVector_of _ fun z hz => h _ (by omega)]
  simp only [Bool.not_true, Bool.false_eq_true, if_false]
  rw [eqTable_of _ fun z hz => h _ (by omega)]
  simp

theorem eqVector_self (K : Bool → Option ρ) (a : Nat → Int) : laws_eqVector 5000 K a a = K true := eqVector_of K fun _ _ => rfl
theorem eqLinear_self (K : Bool → Option ρ) (a : Nat → Int) : laws_eqLinear 5000 K a a = K true := eqLinear_of K fun _ _ => rfl
theorem eqAlgebra_self (K : Bool → Option ρ) (a0 a1 : Nat → Int) : laws_eqAlgebra 5000 K a0 a1 a0 a1 = K true := eqAlgebra_of K rfl rfl fun _ _ => rfl

/-- are m vectors of a list ones for an algebra? -/
def listB (p n : Int) (g : Nat → Int) (m : Nat) : Bool := allN (fun i => vecB p n (fun z => g (i * 8 + z))) 0 m

theorem impl_unless_eq (K : Int → Option ρ) (b : Bool) (c : Int) : impl_unless 5000 K b c = K (if b = true then 0 else c) := by
  cases b <;> rfl

theorem listB_in {p q : Int} {g : Nat → Int} {m : Nat} (h : listB p q g m = true) (hb : ∀ i, i < m * 8 → 0 ≤ g i ∧ g i ≤ 255) {i : Nat} (hi : i < m) : inP p (fun z => g (i * 8 + z)) :=
  vecB_in (allN_true.1 h i (by omega) (by omega)) fun z hz => hb _ (by omega)

/-- n vectors, one behind the other -/
def rowsV (W : Nat → Nat → Int) (n : Nat) : Nat → Int := fun x => if x < n * 8 then W (x / 8) (x % 8) else 0

theorem rowsV_zero {W : Nat → Nat → Int} : rowsV W 0 = fun _ => 0 := by funext x; simp [rowsV]

theorem rowsV_next {W : Nat → Nat → Int} {n : Nat} : updN (rowsV W n) (n * 8) 8 (W n) = rowsV W (n + 1) := by
  funext x
  unfold updN rowsV
  by_cases h : n * 8 ≤ x ∧ x < n * 8 + 8
  · rw [if_pos h, if_pos (by omega), show x / 8 = n by omega, show x % 8 = x - n * 8 by omega]
  · rw [if_neg h]
    by_cases h2 : x < n * 8
    · rw [if_pos h2, if_pos (by omega)]
    · rw [if_neg h2, if_neg (by omega)]

theorem sumN_out {f : Nat → Int} {n : Nat} : ∀ {m : Nat}, n ≤ m → (∀ i, n ≤ i → i < m → f i = 0) → sumN f m = sumN f n
  | 0, h, _ => by rw [show n = 0 by omega]
  | m + 1, h, hz => by
    by_cases he : n = m + 1
    · rw [he]
    · simp only [sumN]
      rw [hz m (by omega) (by omega), sumN_out (m := m) (by omega) fun i h1 h2 => hz i h1 (by omega)]; omega

theorem one_vec {v : Nat → Int} {i : Nat} (hv : ∀ i, 0 ≤ v i ∧ v i ≤ 255) : 0 ≤ (fun z => v (0 + z)) i ∧ (fun z => v (0 + z)) i ≤ 255 := hv _

theorem one_fst {p : Int} {v : Nat → Int} (h : inP p (fun z => (fun z => v (0 + z)) (0 * 8 + z))) : inP p v := by
  intro z hz
  have := h z hz
  simp only at this
  rw [show 0 + (0 * 8 + z) = z by omega] at this
  exact this

theorem keepN_byte' {m : Nat} {a : Nat → Int} (h : ∀ i, IntKind.u8.has (a i)) (i : Nat) : 0 ≤ keepN m a i ∧ keepN m a i ≤ 255 := by
  unfold keepN
  split
  · exact h i
  · omega

theorem first2_any (K : Int → Option ρ) (g : Nat → Int) {m c : Nat} (hm : m < 900) : impl_first_s2 5000 K m c g = optK (firstN (fun i => if g i = 0 then none else some (g i)) 0 m) K (K 0) := by
  rw [impl_first_s2, impl_first_s2.s]
  refine find_at (n := m) (fun i => if g i = 0 then none else some (g i)) K (fun k i hi => ?_) (fun k => ?_) (by omega)
  · simp only [impl_first_s2.l0, impl_first_s2.b0]
    have h1 : (i : Int) < m := by omega
    have h2 : (0 : Int) ≤ i ∧ (i : Int) < m := by omega
    simp only [h1, h2, decide_true, if_true, and_self, Int.toNat_natCast, Nat.mul_one, Nat.zero_add, nx (show i < 100000 by omega)]
    by_cases hg : g i = 0
    · simp [hg, optK]
    · simp [hg, optK]
  · simp only [impl_first_s2.l0, impl_first_s2.b0, Int.lt_irrefl, decide_false, Bool.false_eq_true, if_false, impl_first_s2.a0_0]

theorem first2 (K : Int → Option ρ) (x y : Int) : impl_first_s2 5000 K 2 2 (fun z => upd (upd (fun _ => 0) 0 x) 1 y (0 + z)) = if x = 0 then K y else K x := by
  rw [first2_any _ _ (by omega)]
  have e0 : upd (upd (fun _ => 0) 0 x) 1 y 0 = x := by simp [upd]
  have e1 : upd (upd (fun _ => 0) 0 x) 1 y 1 = y := by simp [upd]
  simp only [firstN, Nat.zero_add, e0, e1]
  by_cases hx : x = 0
  · by_cases hy : y = 0
    · simp [hx, hy, optK]
    · simp [hx, hy, optK]
  · simp [hx, optK]

theorem not8 : ¬ ((8 : Nat) : Int) < 8 := by omega

def turnTo (t : Nat → Int) (c : Nat) : Nat → Int := fun x => if x < 512 ∧ (x % 8) * 64 + x / 8 < c then t ((x % 8) * 64 + x / 8) else 0

theorem turnTo_zero {t : Nat → Int} : turnTo t 0 = fun _ => 0 := by funext x; simp [turnTo]

theorem turnTo_next {t : Nat → Int} {i j k : Nat} (hi : i < 8) (hj : j < 8) (hk : k < 8) : upd (turnTo t (i * 64 + j * 8 + k)) (j * 64 + k * 8 + i) (t (i * 64 + j * 8 + k)) = turnTo t (i * 64 + j * 8 + (k + 1)) := by
  funext x
  unfold upd turnTo
  by_cases hx : x < 512
  · obtain ⟨a, b, c, ha, hb, hc, rfl⟩ := split3 hx
    rw [pl_mod8 hc, pl_div8 hc]
    by_cases h : a * 64 + b * 8 + c = j * 64 + k * 8 + i
    · have e1 : a = j := by omega
      have e2 : b = k := by omega
      have e3 : c = i := by omega
      subst e1 e2 e3
      rw [if_pos rfl, if_pos (by omega)]
      congr 1; omega
    · rw [if_neg h]
      by_cases h2 : a * 64 + b * 8 + c < 512 ∧ c * 64 + (a * 8 + b) < i * 64 + j * 8 + k
      · rw [if_pos h2, if_pos (by omega)]
      · rw [if_neg h2, if_neg (by omega)]
  · rw [if_neg (by omega), if_neg (by omega), if_neg (by omega)]

theorem spec_turned (K : (Nat → Int) → Option ρ) (t : Nat → Int) : spec_l02Turned 5000 K t = K (turnTo t 512) := by
  rw [spec_l02Turned, spec_l02Turned.s]
  refine loop_at (n := 8) (fun i => turnTo t (i * 64)) (turnTo_zero.symm) (fun m i hi => ?_) (fun m => ?_) (by omega)
  · simp only [spec_l02Turned.l0, spec_l02Turned.b0]
    have h1 : (i : Int) < 8 := by omega
    have h2 : (0 : Int) ≤ i ∧ (i : Int) < 8 := by omega
    simp only [h1, decide_true, if_true]
    refine loop_at (n := 8) (fun j => turnTo t (i * 64 + j * 8)) rfl (fun m' j hj => ?_) (fun m' => ?_) (by omega)
    · simp only [spec_l02Turned.l1, spec_l02Turned.b1]
      have g1 : (j : Int) < 8 := by omega
      have g2 : (0 : Int) ≤ j ∧ (j : Int) < 8 := by omega
      simp only [g1, decide_true, if_true]
      refine loop_at (n := 8) (fun k => turnTo t (i * 64 + j * 8 + k)) rfl (fun m'' k hk => ?_) (fun m'' => ?_) (by omega)
      · simp only [spec_l02Turned.l2, spec_l02Turned.b2]
        have f1 : (k : Int) < 8 := by omega
        have f2 : (0 : Int) ≤ k ∧ (k : Int) < 8 := by omega
        simp only [f1, f2, g1, g2, h1, h2, decide_true, if_true, and_self, Int.toNat_natCast, Nat.mul_one, nx (show k < 100000 by omega), turnTo_next hi hj hk]
      · simp only [spec_l02Turned.l2, spec_l02Turned.b2, not8, decide_false, Bool.false_eq_true, if_false, spec_l02Turned.a2_0, nx (show j < 100000 by omega)]
        rw [show i * 64 + j * 8 + 8 = i * 64 + (j + 1) * 8 by omega]
    · simp only [spec_l02Turned.l1, spec_l02Turned.b1, not8, decide_false, Bool.false_eq_true, if_false, spec_l02Turned.a1_0, nx (show i < 100000 by omega)]
      rw [show i * 64 + 8 * 8 = (i + 1) * 64 by omega]
  · simp only [spec_l02Turned.l0, spec_l02Turned.b0, not8, decide_false, Bool.false_eq_true, if_false, spec_l02Turned.a0_0]

theorem eqInts_nn (K : Bool → Option ρ) : laws_eqInt64S_nn 5000 K = K true := rfl
theorem mark_n (K : Int → Option ρ) (k : Int) : laws_markInt64S_n 5000 K k = K k := rfl
theorem held_n (K : Int → Option ρ) (k : Int) : laws_heldInt64S_n 5000 K k = K k := rfl

theorem eqInts_ss (K : Bool → Option ρ) {g g' : Nat → Int} {c d e f : Nat} (h : ∀ i, i < 4 → g i = g' i) : laws_eqInt64S_ss 5000 K 4 c 4 d e g f g' = K true := by
  rw [laws_eqInt64S_ss, laws_eqInt64S_ss.s]
  simp only [bne_self_eq_false, Bool.false_eq_true, if_false]
  refine go_at (n := 4) (fun m i hi => ?_) (fun m => ?_) (by omega)
  · simp only [laws_eqInt64S_ss.l0, laws_eqInt64S_ss.b0]
    have h1 : (i : Int) < ((4 : Nat) : Int) := by omega
    have h2 : (0 : Int) ≤ i ∧ (i : Int) < ((4 : Nat) : Int) := by omega
    simp only [h1, h2, decide_true, if_true, and_self, Int.toNat_natCast, Nat.mul_one, Nat.zero_add, h i hi, bne_self_eq_false, Bool.false_eq_true, if_false, nx (show i < 100000 by omega)]
  · simp only [laws_eqInt64S_ss.l0, laws_eqInt64S_ss.b0, Int.lt_irrefl, decide_false, Bool.false_eq_true, if_false, laws_eqInt64S_ss.a0_0]

/-- the first n are marked -/
def markTo (k : Int) (g : Nat → Int) (n : Nat) : Nat → Int := fun i => if i < n then k + i else g i

theorem mark_s (K : Int → (Nat → Int) → Option ρ) {g : Nat → Int} {c e : Nat} : laws_markInt64S_s 5000 K 4 c 101 e g = K 105 (markTo 101 g 4) := by
  rw [laws_markInt64S_s, laws_markInt64S_s.s]
  have := loop_st (l := fun m i (s : Int × (Nat → Int)) => laws_markInt64S_s.l0 5000 K 4 (fun o8 o9 => laws_markInt64S_s.a0_0 5000 K o8 o9) m s.1 (i : Int) s.2) (n := 4) (out := K 105 (markTo 101 g 4)) (fun i => (101 + (i : Int), markTo 101 g i)) (fun m i hi => ?_) (fun m => ?_) 4 0 5000 (by omega) (by omega)
  · refine Eq.trans ?_ this
    have e : markTo 101 g 0 = g := by funext i; simp [markTo]
    rw [e]
    rfl
  · simp only [laws_markInt64S_s.l0, laws_markInt64S_s.b0]
    have h1 : (i : Int) < ((4 : Nat) : Int) := by omega
    have h2 : (0 : Int) ≤ i ∧ (i : Int) < ((4 : Nat) : Int) := by omega
    have h3 : IntKind.i64.wrap (101 + (i : Int) + 1) = 101 + ((i + 1 : Nat) : Int) := by rw [wrap64_id (by omega) (by omega)]; omega
    simp only [h1, h2, decide_true, if_true, and_self, Int.toNat_natCast, Nat.mul_one, Nat.zero_add, nx (show i < 100000 by omega), h3]
    congr 1
    funext x
    unfold upd markTo
    by_cases hx : x = i
    · rw [if_pos hx, if_pos (by omega), hx]
    · rw [if_neg hx]
      by_cases h4 : x < i
      · rw [if_pos h4, if_pos (by omega)]
      · rw [if_neg h4, if_neg (by omega)]
  · simp only [laws_markInt64S_s.l0, laws_markInt64S_s.b0, Int.lt_irrefl, decide_false, Bool.false_eq_true, if_false, laws_markInt64S_s.a0_0]
    rfl

theorem held_s (K : Int → Option ρ) {g : Nat → Int} {c e : Nat} (h : ∀ i : Nat, i < 4 → g i = 101 + i) : laws_heldInt64S_s 5000 K 4 c 101 e g = K 105 := by
  rw [laws_heldInt64S_s, laws_heldInt64S_s.s]
  refine loop_ta (n := 4) (fun i => 101 + (i : Int)) rfl (fun m i hi => ?_) (fun m => ?_) (by omega)
  · simp only [laws_heldInt64S_s.l0, laws_heldInt64S_s.b0]
    have h1 : (i : Int) < ((4 : Nat) : Int) := by omega
    have h2 : (0 : Int) ≤ i ∧ (i : Int) < ((4 : Nat) : Int) := by omega
    have h3 : IntKind.i64.wrap (101 + (i : Int) + 1) = 101 + ((i + 1 : Nat) : Int) := by rw [wrap64_id (by omega) (by omega)]; omega
    simp only [h1, h2, decide_true, if_true, and_self, Int.toNat_natCast, Nat.mul_one, Nat.zero_add, h i hi, bne_self_eq_false, Bool.false_eq_true, if_false, nx (show i < 100000 by omega), h3]
  · simp only [laws_heldInt64S_s.l0, laws_heldInt64S_s.b0, Int.lt_irrefl, decide_false, Bool.false_eq_true, if_false, laws_heldInt64S_s.a0_0]
    rfl

theorem mark_held {g r : Nat → Int} : ∀ i : Nat, i < 4 → (fun z => updN g 0 (4 * 1) (markTo 101 r 4) (0 + z)) i = 101 + i := by
  intro i hi
  simp only [updN, markTo, Nat.zero_add]
  rw [if_pos (by omega), if_pos (by omega)]
  rfl


end Go.Proofs.Ythecjjnieojjoaa.H
