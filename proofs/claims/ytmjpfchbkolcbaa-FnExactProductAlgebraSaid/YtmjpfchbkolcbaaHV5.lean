/- Tables turned, products of algebras: told alike by the reference and the program. -/
import Derived.Test.YtmjpfchbkolcbaaHV4
namespace Go.Proofs.Ytmjpfchbkolcbaa.H
set_option linter.unusedVariables false
set_option linter.unusedSimpArgs false
open Go Go.RowKit Go.Proofs.Ytmjpfchbkolcbaa.Hx
set_option linter.unusedVariables false
set_option linter.unusedSimpArgs false
set_option maxRecDepth 100000

variable {ρ : Type}

/-! tables turned -/

theorem not8 : ¬ ((8 : Nat) : Int) < 8 := by omega

def turnTo (t : Nat → Int) (c : Nat) : Nat → Int := fun x => if x < 512 ∧ (x % 8) * 64 + x / 8 < c then t ((x % 8) * 64 + x / 8) else 0

theorem turnTo_zero {t : Nat → Int} : turnTo t 0 = fun _ => 0 := by funext x; simp [turnTo]

theorem turnTo_next {t : Nat → Int} {i j k : Nat} (hi : i < 8) (hj : j < 8) (hk : k < 8) : upd (turnTo t (i * 64 + j * 8 + k)) (j * 64 + k * 8 + i) (t (i * 64 + j * 8 + k)) = turnTo t (i * 64 + j * 8 + (k + 1)) := by
  funext x
  unfold upd turnTo
  by_cases hx : x < 512
  · obtain ⟨a, b, c, ha, hb, hc, rfl⟩ := split3 hx
    rw [pl_mod8 hc, pl_div8 hc]
    by_cases h : a * 64 + b * 8 + c = j * 64 + k * 8 + i
    · have e1 : a = j := by omega
      have e2 : b = k := by omega
      have e3 : c = i := by omega
      subst e1 e2 e3
      rw [if_pos rfl, if_pos (by omega)]
      congr 1; omega
    · rw [if_neg h]
      by_cases h2 : a * 64 + b * 8 + c < 512 ∧ c * 64 + (a * 8 + b) < i * 64 + j * 8 + k
      · rw [if_pos h2, if_pos (by omega)]
      · rw [if_neg h2, if_neg (by omega)]
  · rw [if_neg (by omega), if_neg (by omega), if_neg (by omega)]

theorem spec_turned (K : (Nat → Int) → Option ρ) (t : Nat → Int) : spec_l02Turned 1000 K t = K (turnTo t 512) := by
  rw [spec_l02Turned, spec_l02Turned.s]
  refine loop_at (n := 8) (fun i => turnTo t (i * 64)) (turnTo_zero.symm) (fun m i hi => ?_) (fun m => ?_) (by omega)
  · simp only [spec_l02Turned.l0, spec_l02Turned.b0]
    have h1 : (i : Int) < 8 := by omega
    have h2 : (0 : Int) ≤ i ∧ (i : Int) < 8 := by omega
    simp only [h1, decide_true, if_true]
    refine loop_at (n := 8) (fun j => turnTo t (i * 64 + j * 8)) rfl (fun m' j hj => ?_) (fun m' => ?_) (by omega)
    · simp only [spec_l02Turned.l1, spec_l02Turned.b1]
      have g1 : (j : Int) < 8 := by omega
      have g2 : (0 : Int) ≤ j ∧ (j : Int) < 8 := by omega
      simp only [g1, decide_true, if_true]
      refine loop_at (n := 8) (fun k => turnTo t (i * 64 + j * 8 + k)) rfl (fun m'' k hk => ?_) (fun m'' => ?_) (by omega)
      · simp only [spec_l02Turned.l2, spec_l02Turned.b2]
        have f1 : (k : Int) < 8 := by omega
        have f2 : (0 : Int) ≤ k ∧ (k : Int) < 8 := by omega
        simp only [f1, f2, g1, g2, h1, h2, decide_true, if_true, and_self, Int.toNat_natCast, Nat.mul_one, nx (show k < 100000 by omega), turnTo_next hi hj hk]
      · simp only [spec_l02Turned.l2, spec_l02Turned.b2, not8, decide_false, Bool.false_eq_true, if_false, spec_l02Turned.a2_0, nx (show j < 100000 by omega)]
        rw [show i * 64 + j * 8 + 8 = i * 64 + (j + 1) * 8 by omega]
    · simp only [spec_l02Turned.l1, spec_l02Turned.b1, not8, decide_false, Bool.false_eq_true, if_false, spec_l02Turned.a1_0, nx (show i < 100000 by omega)]
      rw [show i * 64 + 8 * 8 = (i + 1) * 64 by omega]
  · simp only [spec_l02Turned.l0, spec_l02Turned.b0, not8, decide_false, Bool.false_eq_true, if_false, spec_l02Turned.a0_0]

def dualTo (g : Nat → Int) (c : Nat) : Nat → Int := fun x => if x < c then g ((x % 64) * 8 + x / 64) else 0

theorem dualTo_zero {t : Nat → Int} : dualTo t 0 = fun _ => 0 := by funext x; simp [dualTo]

theorem dualTo_next {t : Nat → Int} {i j k : Nat} (hi : i < 8) (hj : j < 8) (hk : k < 8) : upd (dualTo t (i * 64 + j * 8 + k)) (i * 64 + j * 8 + k) (t (j * 64 + k * 8 + i)) = dualTo t (i * 64 + j * 8 + (k + 1)) := by
  funext x
  unfold upd dualTo
  by_cases h : x = i * 64 + j * 8 + k
  · subst h
    rw [if_pos rfl, if_pos (by omega), pl_mod64 hj hk, pl_div64 hj hk]
    congr 1; omega
  · rw [if_neg h]
    by_cases h2 : x < i * 64 + j * 8 + k
    · rw [if_pos h2, if_pos (by omega)]
    · rw [if_neg h2, if_neg (by omega)]

theorem impl_dualTable_eq (K : (Nat → Int) → Option ρ) (t : Nat → Int) : impl_dualTable 1000 K t = K (dualTo t 512) := by
  rw [impl_dualTable, impl_dualTable.s]
  refine loop_at (n := 8) (fun i => dualTo t (i * 64)) (dualTo_zero.symm) (fun m i hi => ?_) (fun m => ?_) (by omega)
  · simp only [impl_dualTable.l0, impl_dualTable.b0]
    have h1 : (i : Int) < 8 := by omega
    have h2 : (0 : Int) ≤ i ∧ (i : Int) < 8 := by omega
    simp only [h1, decide_true, if_true]
    refine loop_at (n := 8) (fun j => dualTo t (i * 64 + j * 8)) rfl (fun m' j hj => ?_) (fun m' => ?_) (by omega)
    · simp only [impl_dualTable.l1, impl_dualTable.b1]
      have g1 : (j : Int) < 8 := by omega
      have g2 : (0 : Int) ≤ j ∧ (j : Int) < 8 := by omega
      simp only [g1, decide_true, if_true]
      refine loop_at (n := 8) (fun k => dualTo t (i * 64 + j * 8 + k)) rfl (fun m'' k hk => ?_) (fun m'' => ?_) (by omega)
      · simp only [impl_dualTable.l2, impl_dualTable.b2]
        have f1 : (k : Int) < 8 := by omega
        have f2 : (0 : Int) ≤ k ∧ (k : Int) < 8 := by omega
        simp only [f1, f2, g1, g2, h1, h2, decide_true, if_true, and_self, Int.toNat_natCast, Nat.mul_one, nx (show k < 100000 by omega), dualTo_next hi hj hk]
      · simp only [impl_dualTable.l2, impl_dualTable.b2, not8, decide_false, Bool.false_eq_true, if_false, impl_dualTable.a2_0, nx (show j < 100000 by omega)]
        rw [show i * 64 + j * 8 + 8 = i * 64 + (j + 1) * 8 by omega]
    · simp only [impl_dualTable.l1, impl_dualTable.b1, not8, decide_false, Bool.false_eq_true, if_false, impl_dualTable.a1_0, nx (show i < 100000 by omega)]
      rw [show i * 64 + 8 * 8 = (i + 1) * 64 by omega]
  · simp only [impl_dualTable.l0, impl_dualTable.b0, not8, decide_false, Bool.false_eq_true, if_false, impl_dualTable.a0_0]

theorem turn_twice {t : Nat → Int} : turnTo (turnTo t 512) 512 = dualTo t 512 := by
  funext x
  unfold turnTo dualTo
  by_cases hx : x < 512
  · obtain ⟨a, b, c, ha, hb, hc, rfl⟩ := split3 hx
    rw [pl_mod8 hc, pl_div8 hc, pl_mod64 hb hc, pl_div64 hb hc, if_pos (by omega), if_pos hx]
    rw [show c * 64 + (a * 8 + b) = c * 64 + a * 8 + b by omega, pl_mod8 hb, pl_div8 hb, if_pos (by omega)]
    congr 1; omega
  · rw [if_neg (by omega), if_neg hx]

/-! products of algebras -/

def mvTo (v : Nat → Int) (n i : Nat) : Nat → Int := fun x => if n ≤ x ∧ x < n + i ∧ x < 8 then v (x - n) else 0

theorem mvTo_zero {v : Nat → Int} {n : Nat} : mvTo v n 0 = fun _ => 0 := by
  funext x; unfold mvTo; rw [if_neg (by omega)]

theorem impl_moved_eq (K : (Nat → Int) → Option ρ) {v : Nat → Int} {n : Nat} (hn : n ≤ 8) (hz : ∀ i, i < 8 → 8 ≤ i + n → v i = 0) : impl_moved 1000 K v (n : Int) = K (mvTo v n 8) := by
  simp only [impl_moved, impl_moved.s]
  rw [show (fun _ => 0 : Nat → Int) = mvTo v n 0 from mvTo_zero.symm]
  refine (loop_st (l := fun m i g => impl_moved.l0 1000 K v (n : Int) (fun o => impl_moved.a0_0 1000 K o) m (i : Int) g) (n := 8) (fun i => mvTo v n i) (fun m i hi => ?_) (fun m => ?_) 8 0 1000 (by omega) (by omega))
  · simp only [impl_moved.l0, impl_moved.b0]
    have h1 : (i : Int) < 8 := by omega
    have h2 : (0 : Int) ≤ i ∧ (i : Int) < 8 := by omega
    have hw : IntKind.i64.wrap ((i : Int) + n) = ((i + n : Nat) : Int) := by rw [wrap64_id (by omega) (by omega)]; omega
    simp only [h1, h2, decide_true, if_true, and_self, Int.toNat_natCast, Nat.mul_one, nx (show i < 100000 by omega), hw]
    by_cases h0 : v i = 0
    · have hb : (v i != 0) = false := by simp [h0]
      simp only [hb, Bool.false_eq_true, if_false]
      congr 1
      funext x
      unfold mvTo
      by_cases hx : n ≤ x ∧ x < n + i ∧ x < 8
      · rw [if_pos hx, if_pos (by omega)]
      · rw [if_neg hx]
        by_cases hx2 : n ≤ x ∧ x < n + (i + 1) ∧ x < 8
        · rw [if_pos hx2, show x - n = i by omega, h0]
        · rw [if_neg hx2]
    · have hb : (v i != 0) = true := by simpa using h0
      have hlt : i + n < 8 := by
        rcases Nat.lt_or_ge (i + n) 8 with h | h
        · exact h
        · exact absurd (hz i hi h) h0
      have h3 : (0 : Int) ≤ ((i + n : Nat) : Int) ∧ ((i + n : Nat) : Int) < 8 := by omega
      simp only [hb, if_true, h3, and_self]
      congr 1
      funext x
      unfold upd mvTo
      by_cases hx0 : x = i + n
      · rw [if_pos hx0, if_pos (by omega), show x - n = i by omega]
      · rw [if_neg hx0]
        by_cases hx : n ≤ x ∧ x < n + i ∧ x < 8
        · rw [if_pos hx, if_pos (by omega)]
        · rw [if_neg hx, if_neg (by omega)]
  · rfl

/-- the reference's table, while it is filled -/
def prS (n q : Nat) (a b : Nat → Int) (u i k m : Nat) : Nat → Int := fun x =>
  if x < 8 then (if n ≤ x ∧ x < n + u then b (x - n) else a x)
  else if x < 520 ∧ n ≤ (x - 8) / 64 ∧ n ≤ (x - 8) / 8 % 8 ∧ (x - 8) / 8 % 8 < n + q ∧ n ≤ (x - 8) % 8 ∧ (x - 8) % 8 < n + q ∧ ((x - 8) / 64 < n + i ∨ ((x - 8) / 64 = n + i ∧ ((x - 8) / 8 % 8 < n + k ∨ ((x - 8) / 8 % 8 = n + k ∧ (x - 8) % 8 < n + m)))) then
    b (8 + ((x - 8) / 64 - n) * 64 + ((x - 8) / 8 % 8 - n) * 8 + ((x - 8) % 8 - n)) else a x

theorem prS_zero {n q : Nat} {a b : Nat → Int} : prS n q a b 0 0 0 0 = a := by
  funext x
  unfold prS
  by_cases h : x < 8
  · rw [if_pos h, if_neg (by omega)]
  · rw [if_neg h, if_neg (by omega)]

theorem prS_unit {n q : Nat} {a b : Nat → Int} {i : Nat} (hi : i < q) (hq : n + q ≤ 8) : upd (prS n q a b i i 0 0) (n + i) (b i) = prS n q a b (i + 1) i 0 0 := by
  funext x
  unfold upd prS
  by_cases h0 : x = n + i
  · rw [if_pos h0, if_pos (by omega), if_pos (by omega), show x - n = i by omega]
  · rw [if_neg h0]
    by_cases h : x < 8
    · rw [if_pos h, if_pos h]
      by_cases h2 : n ≤ x ∧ x < n + i
      · rw [if_pos h2, if_pos (by omega)]
      · rw [if_neg h2, if_neg (by omega)]
    · rw [if_neg h, if_neg h]

theorem prS_m {n q : Nat} {a b : Nat → Int} {u i k m : Nat} (hi : i < q) (hk : k < q) (hm : m < q) (hq : n + q ≤ 8) : upd (prS n q a b u i k m) (8 + (n + i) * 64 + (n + k) * 8 + (n + m)) (b (8 + i * 64 + k * 8 + m)) = prS n q a b u i k (m + 1) := by
  funext x
  unfold upd prS
  by_cases h0 : x = 8 + (n + i) * 64 + (n + k) * 8 + (n + m)
  · have e1 : (x - 8) / 64 = n + i := by omega
    have e2 : (x - 8) / 8 % 8 = n + k := by omega
    have e3 : (x - 8) % 8 = n + m := by omega
    rw [if_pos h0, if_neg (by omega), e1, e2, e3, if_pos (by omega)]
    congr 1; omega
  · rw [if_neg h0]
    by_cases h : x < 8
    · rw [if_pos h, if_pos h]
    · rw [if_neg h, if_neg h]
      have e : ¬ (x < 520 ∧ (x - 8) / 64 = n + i ∧ (x - 8) / 8 % 8 = n + k ∧ (x - 8) % 8 = n + m) := by omega
      by_cases h2 : x < 520 ∧ n ≤ (x - 8) / 64 ∧ n ≤ (x - 8) / 8 % 8 ∧ (x - 8) / 8 % 8 < n + q ∧ n ≤ (x - 8) % 8 ∧ (x - 8) % 8 < n + q ∧ ((x - 8) / 64 < n + i ∨ ((x - 8) / 64 = n + i ∧ ((x - 8) / 8 % 8 < n + k ∨ ((x - 8) / 8 % 8 = n + k ∧ (x - 8) % 8 < n + m))))
      · rw [if_pos h2, if_pos]
        generalize (x - 8) / 64 = I at h2 ⊢
        generalize (x - 8) / 8 % 8 = J at h2 ⊢
        generalize (x - 8) % 8 = M at h2 ⊢
        omega
      · rw [if_neg h2, if_neg]
        generalize (x - 8) / 64 = I at h2 e ⊢
        generalize (x - 8) / 8 % 8 = J at h2 e ⊢
        generalize (x - 8) % 8 = M at h2 e ⊢
        omega

theorem prS_k {n q : Nat} {a b : Nat → Int} {u i k : Nat} (hk : k < q) : prS n q a b u i k q = prS n q a b u i (k + 1) 0 := by
  funext x
  unfold prS
  congr 1
  generalize (x - 8) / 64 = I
  generalize (x - 8) / 8 % 8 = J
  generalize (x - 8) % 8 = M
  congr 1
  apply propext
  omega

theorem prS_i {n q : Nat} {a b : Nat → Int} {u i : Nat} (hi : i < q) : prS n q a b u i q 0 = prS n q a b u (i + 1) 0 0 := by
  funext x
  unfold prS
  congr 1
  generalize (x - 8) / 64 = I
  generalize (x - 8) / 8 % 8 = J
  generalize (x - 8) % 8 = M
  congr 1
  apply propext
  omega

/-- the program's table, while it is filled -/
def prT (n q : Nat) (a b : Nat → Int) (i j : Nat) : Nat → Int := fun x =>
  if 8 ≤ x ∧ x < 520 ∧ n ≤ (x - 8) / 64 ∧ n ≤ (x - 8) / 8 % 8 ∧ (x - 8) / 8 % 8 < n + q ∧ ((x - 8) / 64 < n + i ∨ ((x - 8) / 64 = n + i ∧ (x - 8) / 8 % 8 < n + j)) then
    (if n ≤ (x - 8) % 8 then b (8 + ((x - 8) / 64 - n) * 64 + ((x - 8) / 8 % 8 - n) * 8 + ((x - 8) % 8 - n)) else 0) else a x

theorem prT_zero {n q : Nat} {a b : Nat → Int} : prT n q a b 0 0 = a := by
  funext x
  unfold prT
  rw [if_neg (by omega)]

theorem prT_j {n q : Nat} {a b : Nat → Int} {i j : Nat} (hi : i < q) (hj : j < q) (hq : n + q ≤ 8) : updN (prT n q a b i j) (8 + (n + i) * 64 + (n + j) * 8) 8 (mvTo (fun z => b (8 + i * 64 + j * 8 + z)) n 8) = prT n q a b i (j + 1) := by
  funext x
  unfold updN prT mvTo
  by_cases h0 : 8 + (n + i) * 64 + (n + j) * 8 ≤ x ∧ x < 8 + (n + i) * 64 + (n + j) * 8 + 8
  · have e1 : (x - 8) / 64 = n + i := by omega
    have e2 : (x - 8) / 8 % 8 = n + j := by omega
    have e3 : (x - 8) % 8 = x - (8 + (n + i) * 64 + (n + j) * 8) := by omega
    rw [if_pos h0, e1, e2, e3]
    generalize hy : x - (8 + (n + i) * 64 + (n + j) * 8) = y
    rw [if_pos (show 8 ≤ x ∧ x < 520 ∧ n ≤ n + i ∧ n ≤ n + j ∧ n + j < n + q ∧ (n + i < n + i ∨ n + i = n + i ∧ n + j < n + (j + 1)) by omega)]
    by_cases hz : n ≤ y
    · rw [if_pos (show n ≤ y ∧ y < n + 8 ∧ y < 8 by omega), if_pos hz]
      show b (8 + i * 64 + j * 8 + (y - n)) = b (8 + (n + i - n) * 64 + (n + j - n) * 8 + (y - n))
      congr 1; omega
    · rw [if_neg (show ¬ (n ≤ y ∧ y < n + 8 ∧ y < 8) by omega), if_neg hz]
  · rw [if_neg h0]
    have e : ¬ (8 ≤ x ∧ x < 520 ∧ (x - 8) / 64 = n + i ∧ (x - 8) / 8 % 8 = n + j) := by omega
    congr 1
    generalize (x - 8) / 64 = I at e ⊢
    generalize (x - 8) / 8 % 8 = J at e ⊢
    apply propext
    omega

theorem prT_i {n q : Nat} {a b : Nat → Int} {i : Nat} (hi : i < q) : prT n q a b i q = prT n q a b (i + 1) 0 := by
  funext x
  unfold prT
  congr 1
  generalize (x - 8) / 64 = I
  generalize (x - 8) / 8 % 8 = J
  apply propext
  omega

end Go.Proofs.Ytmjpfchbkolcbaa.H
