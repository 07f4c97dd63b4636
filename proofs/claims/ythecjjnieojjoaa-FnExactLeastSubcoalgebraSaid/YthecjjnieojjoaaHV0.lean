/- What is a prime, a size, a vector, a linear map, a table: the reference and the program tell the same. -/
import Derived.Test.YthecjjnieojjoaaHP0
import Derived.Test.YthecjjnieojjoaaHyMath
import Derived.KernelRfl
namespace Go.Proofs.Ythecjjnieojjoaa.H
set_option linter.unusedVariables false
set_option linter.unusedSimpArgs false
open Go Go.RowKit Go.Proofs.Ythecjjnieojjoaa.Hy
set_option linter.unusedVariables false
set_option linter.unusedSimpArgs false
set_option maxRecDepth 100000

variable {ρ : Type}

def isP (p : Int) : Bool := decide (p ∈ [2, 3, 5, 7, 11, 13, 17, 19, 23, 29, 31])

theorem thirty {p : Int} (h : 2 ≤ p) (h' : p ≤ 31) : p = 2 ∨ p = 3 ∨ p = 4 ∨ p = 5 ∨ p = 6 ∨ p = 7 ∨ p = 8 ∨ p = 9 ∨ p = 10 ∨ p = 11 ∨ p = 12 ∨ p = 13 ∨ p = 14 ∨ p = 15 ∨ p = 16 ∨ p = 17 ∨ p = 18 ∨ p = 19 ∨ p = 20 ∨ p = 21 ∨ p = 22 ∨ p = 23 ∨ p = 24 ∨ p = 25 ∨ p = 26 ∨ p = 27 ∨ p = 28 ∨ p = 29 ∨ p = 30 ∨ p = 31 := by omega

theorem isP_no {p : Int} (h : p < 2 ∨ 31 < p) : isP p = false := by
  unfold isP
  apply decide_eq_false
  simp only [List.mem_cons, List.not_mem_nil, or_false]
  omega

theorem isP_range {p : Int} (h : isP p = true) : 2 ≤ p ∧ p ≤ 31 := by
  by_cases h1 : p < 2 ∨ 31 < p
  · rw [isP_no h1] at h; cases h
  · omega

theorem spec_prime_high (K : Bool → Option ρ) (p : Int) (h : 31 < p) : ∀ n : Nat, n ≤ 30 → ∀ m, n < m → spec_l01Prime.l0 6000 K p (spec_l01Prime.a0_0 6000 K p) m (32 - n) = K false := by
  intro n
  induction n with
  | zero =>
    intro _ m hm
    obtain ⟨m, rfl⟩ : ∃ k, m = k + 1 := ⟨m - 1, by omega⟩
    simp only [spec_l01Prime.l0, spec_l01Prime.b0, spec_l01Prime.a0_0, spec_l01In]
    have h2 : ¬ (p ≤ 31) := by omega
    have h3 : (2 : Int) ≤ p := by omega
    simp [h2, h3]
  | succ n ih =>
    intro hn m hm
    obtain ⟨m, rfl⟩ : ∃ k, m = k + 1 := ⟨m - 1, by omega⟩
    have ih := ih (by omega) m (by omega)
    have e : IntKind.i64.wrap ((32 : Int) - ((n + 1 : Nat) : Int) + 1) = 32 - (n : Int) := by
      rw [wrap64_id (by omega) (by omega)]; omega
    have hd : (32 : Int) - ((n + 1 : Nat) : Int) < p := by omega
    have h31 : (32 : Int) - ((n + 1 : Nat) : Int) ≤ 31 := by omega
    have h0 : ¬ ((32 : Int) - ((n + 1 : Nat) : Int) = 0) := by omega
    simp only [spec_l01Prime.l0, spec_l01Prime.b0, hd, h31, h0, decide_true, if_true, if_false, e, ih]
    split <;> rfl

theorem spec_prime (K : Bool → Option ρ) (p : Int) : spec_l01Prime 6000 K p = K (isP p) := by
  by_cases h2 : p < 2
  · rw [isP_no (.inl h2)]
    have h3 : ¬ (2 < p) := by omega
    have h4 : ¬ (p ≥ 2) := by omega
    show spec_l01Prime.b0 6000 K _ _ p 2 = _
    simp [spec_l01Prime.b0, spec_l01Prime.a0_0, spec_l01In, h3, h4]
  · by_cases h31 : 31 < p
    · rw [isP_no (.inr h31)]
      exact spec_prime_high K p h31 30 (by omega) 6000 (by omega)
    · rcases thirty (Int.not_lt.1 h2) (Int.not_lt.1 h31) with h|h|h|h|h|h|h|h|h|h|h|h|h|h|h|h|h|h|h|h|h|h|h|h|h|h|h|h|h|h <;> subst h <;> kernel_rfl

theorem impl_prime (K : Bool → Option ρ) (p : Int) : impl_IsPrime 6000 K p = K (isP p) := by
  by_cases h2 : p < 2
  · rw [isP_no (.inl h2)]
    simp [impl_IsPrime, impl_IsPrime.s, h2]
  · by_cases h31 : 31 < p
    · rw [isP_no (.inr h31)]
      have h3 : p > 31 := h31
      simp [impl_IsPrime, impl_IsPrime.s, h2, h3]
    · rcases thirty (Int.not_lt.1 h2) (Int.not_lt.1 h31) with h|h|h|h|h|h|h|h|h|h|h|h|h|h|h|h|h|h|h|h|h|h|h|h|h|h|h|h|h|h <;> subst h <;> kernel_rfl

/-! sizes, vectors, tables -/

def sizB (p n : Int) : Bool := isP p && (decide (1 ≤ n) && decide (n ≤ 8))
def vecB (p n : Int) (v : Nat → Int) : Bool := allN (fun i => !decide (IntKind.i64.wrap (v i) ≥ p) && (!decide ((i : Int) ≥ n) || !(v i != 0))) 0 8
def linB (p n : Int) (f : Nat → Int) : Bool := allN (fun i => vecB p n (fun z => f (i * 8 + z)) && (!decide ((i : Int) ≥ n) || eqN 8 (fun z => f (i * 8 + z)) (fun _ => 0))) 0 8
def tabB (p n : Int) (t : Nat → Int) : Bool := allN (fun i => linB p n (fun z => t (i * 64 + z)) && (!decide ((i : Int) ≥ n) || eqN 64 (fun z => t (i * 64 + z)) (fun _ => 0))) 0 8

theorem nx {i : Nat} (h : i < 100000) : IntKind.i64.wrap ((i : Int) + 1) = ((i + 1 : Nat) : Int) := by
  rw [wrap64_id (by omega) (by omega)]; omega

theorem K_if (K : Bool → Option ρ) (b : Bool) : (if b = true then K true else K false) = K b := by cases b <;> rfl

theorem spec_in (K : Bool → Option ρ) (n lo hi : Int) : spec_l01In 6000 K n lo hi = K (decide (lo ≤ n) && decide (n ≤ hi)) := by
  unfold spec_l01In
  by_cases h : n ≥ lo
  · have h' : lo ≤ n := h
    simp [h, h']
  · have h' : ¬ lo ≤ n := h
    simp [h, h']

theorem impl_in_eq (K : Bool → Option ρ) (n lo hi : Int) : impl_in 6000 K n lo hi = K (decide (lo ≤ n) && decide (n ≤ hi)) := by
  unfold impl_in
  by_cases h : lo ≤ n <;> simp [h]

theorem spec_sizes (K : Bool → Option ρ) (p n : Int) : spec_l01Sizes 6000 K p n = K (sizB p n) := by
  unfold spec_l01Sizes sizB
  rw [spec_prime]
  cases isP p
  · simp
  · simp [spec_in]

theorem spec_vector (K : Bool → Option ρ) (p n : Int) (v : Nat → Int) : spec_l01Vector 6000 K p n v = K (vecB p n v) := by
  refine Eq.trans ?_ (K_if K _)
  refine loop_all (l := fun m i => spec_l01Vector.l0 6000 K p n v (spec_l01Vector.a0_0 6000 K) m (i : Int)) (n := 8) _ (fun m i hi => ?_) (fun m => ?_) 8 0 6000 (by omega) (by omega)
  · simp only [spec_l01Vector.l0, spec_l01Vector.b0]
    have h1 : (i : Int) < 8 := by omega
    have h2 : (0 : Int) ≤ i ∧ (i : Int) < 8 := by omega
    simp only [h1, h2, decide_true, if_true, and_self, Int.toNat_natCast, Nat.mul_one, nx (show i < 100000 by omega)]
    by_cases ha : IntKind.i64.wrap (v i) ≥ p
    · simp [ha]
    · by_cases hb : (i : Int) ≥ n
      · by_cases hc : (v i != 0) = true <;> simp [ha, hb, hc]
      · simp [ha, hb]
  · rfl

theorem impl_vectorLoop (K : Bool → Option ρ) (p n : Int) (v : Nat → Int) : impl_IsVector.l0 6000 K p n v (impl_IsVector.a0_0 6000 K) 6000 0 = K (vecB p n v) := by
  refine Eq.trans ?_ (K_if K _)
  refine loop_all (l := fun m i => impl_IsVector.l0 6000 K p n v (impl_IsVector.a0_0 6000 K) m (i : Int)) (n := 8) _ (fun m i hi => ?_) (fun m => ?_) 8 0 6000 (by omega) (by omega)
  · simp only [impl_IsVector.l0, impl_IsVector.b0]
    have h1 : (i : Int) < 8 := by omega
    have h2 : (0 : Int) ≤ i ∧ (i : Int) < 8 := by omega
    simp only [h1, h2, decide_true, if_true, and_self, Int.toNat_natCast, Nat.mul_one, nx (show i < 100000 by omega)]
    by_cases ha : IntKind.i64.wrap (v i) ≥ p
    · simp [ha]
    · by_cases hb : (i : Int) ≥ n
      · by_cases hc : (v i != 0) = true <;> simp [ha, hb, hc]
      · simp [ha, hb]
  · rfl

theorem impl_isVector (K : Bool → Option ρ) (p n : Int) (v : Nat → Int) : impl_IsVector 6000 K p n v = K (sizB p n && vecB p n v) := by
  simp only [impl_IsVector, impl_IsVector.s, impl_prime, impl_in_eq, impl_vectorLoop, sizB]
  cases isP p
  · simp
  · by_cases h1 : 1 ≤ n <;> by_cases h8 : n ≤ 8 <;> simp [h1, h8]

theorem spec_linear (K : Bool → Option ρ) (p n : Int) (f : Nat → Int) : spec_l01Linear 6000 K p n f = K (linB p n f) := by
  refine Eq.trans ?_ (K_if K _)
  refine loop_all (l := fun m i => spec_l01Linear.l0 6000 K p n f (spec_l01Linear.a0_0 6000 K) m (i : Int)) (n := 8) _ (fun m i hi => ?_) (fun m => ?_) 8 0 6000 (by omega) (by omega)
  · simp only [spec_l01Linear.l0, spec_l01Linear.b0, spec_vector]
    have h1 : (i : Int) < 8 := by omega
    have h2 : (0 : Int) ≤ i ∧ (i : Int) < 8 := by omega
    simp only [h1, h2, decide_true, if_true, and_self, Int.toNat_natCast, Nat.mul_one, nx (show i < 100000 by omega)]
    cases vecB p n (fun z => f (i * 8 + z))
    · simp
    · by_cases hb : (i : Int) ≥ n
      · cases eqN 8 (fun z => f (i * 8 + z)) (fun _ => 0) <;> simp [hb]
      · simp [hb]
  · rfl

theorem spec_table (K : Bool → Option ρ) (p n : Int) (t : Nat → Int) : spec_l01Table 6000 K p n t = K (tabB p n t) := by
  refine Eq.trans ?_ (K_if K _)
  refine loop_all (l := fun m i => spec_l01Table.l0 6000 K p n t (spec_l01Table.a0_0 6000 K) m (i : Int)) (n := 8) _ (fun m i hi => ?_) (fun m => ?_) 8 0 6000 (by omega) (by omega)
  · simp only [spec_l01Table.l0, spec_l01Table.b0, spec_linear]
    have h1 : (i : Int) < 8 := by omega
    have h2 : (0 : Int) ≤ i ∧ (i : Int) < 8 := by omega
    simp only [h1, h2, decide_true, if_true, and_self, Int.toNat_natCast, Nat.mul_one, nx (show i < 100000 by omega)]
    cases linB p n (fun z => t (i * 64 + z))
    · simp
    · by_cases hb : (i : Int) ≥ n
      · cases eqN 64 (fun z => t (i * 64 + z)) (fun _ => 0) <;> simp [hb]
      · simp [hb]
  · rfl

theorem impl_linear (K : Bool → Option ρ) (p n : Int) (f : Nat → Int) (hs : sizB p n = true) : impl_isLinear 6000 K p n n f = K (linB p n f) := by
  refine Eq.trans ?_ (K_if K _)
  refine loop_all (l := fun m i => impl_isLinear.l0 6000 K p n n f (impl_isLinear.a0_0 6000 K) m (i : Int)) (n := 8) _ (fun m i hi => ?_) (fun m => ?_) 8 0 6000 (by omega) (by omega)
  · simp only [impl_isLinear.l0, impl_isLinear.b0, impl_isVector, hs, Bool.true_and]
    have h1 : (i : Int) < 8 := by omega
    have h2 : (0 : Int) ≤ i ∧ (i : Int) < 8 := by omega
    simp only [h1, h2, decide_true, if_true, and_self, Int.toNat_natCast, Nat.mul_one, nx (show i < 100000 by omega)]
    cases vecB p n (fun z => f (i * 8 + z))
    · simp
    · by_cases hb : (i : Int) ≥ n
      · cases eqN 8 (fun z => f (i * 8 + z)) (fun _ => 0) <;> simp [hb]
      · simp [hb]
  · rfl

theorem impl_table (K : Bool → Option ρ) (p n : Int) (t : Nat → Int) (hs : sizB p n = true) : impl_isTable 6000 K p n t = K (tabB p n t) := by
  refine Eq.trans ?_ (K_if K _)
  refine loop_all (l := fun m i => impl_isTable.l0 6000 K p n t (impl_isTable.a0_0 6000 K) m (i : Int)) (n := 8) _ (fun m i hi => ?_) (fun m => ?_) 8 0 6000 (by omega) (by omega)
  · simp only [impl_isTable.l0, impl_isTable.b0, impl_linear _ _ _ _ hs]
    have h1 : (i : Int) < 8 := by omega
    have h2 : (0 : Int) ≤ i ∧ (i : Int) < 8 := by omega
    simp only [h1, h2, decide_true, if_true, and_self, Int.toNat_natCast, Nat.mul_one, nx (show i < 100000 by omega)]
    cases linB p n (fun z => t (i * 64 + z))
    · simp
    · by_cases hb : (i : Int) ≥ n
      · cases eqN 64 (fun z => t (i * 64 + z)) (fun _ => 0) <;> simp [hb]
      · simp [hb]
  · rfl

end Go.Proofs.Ythecjjnieojjoaa.H
