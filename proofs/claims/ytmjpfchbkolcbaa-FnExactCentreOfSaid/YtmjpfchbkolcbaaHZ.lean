import Derived.Test.YtmjpfchbkolcbaaHP0
import Derived.Test.YtmjpfchbkolcbaaHyMath
import Derived.KernelRfl
namespace Go.Proofs.Ytmjpfchbkolcbaa.H
set_option linter.unusedVariables false
set_option linter.unusedSimpArgs false
open Go Go.RowKit Go.Proofs.Ytmjpfchbkolcbaa.Hy
set_option maxRecDepth 100000
variable {ρ : Type}
def isP (p : Int) : Bool := decide (p ∈ [2, 3, 5, 7, 11, 13, 17, 19, 23, 29, 31])
theorem thirty {p : Int} (h : 2 ≤ p) (h' : p ≤ 31) : p = 2 ∨ p = 3 ∨ p = 4 ∨ p = 5 ∨ p = 6 ∨ p = 7 ∨ p = 8 ∨ p = 9 ∨ p = 10 ∨ p = 11 ∨ p = 12 ∨ p = 13 ∨ p = 14 ∨ p = 15 ∨ p = 16 ∨ p = 17 ∨ p = 18 ∨ p = 19 ∨ p = 20 ∨ p = 21 ∨ p = 22 ∨ p = 23 ∨ p = 24 ∨ p = 25 ∨ p = 26 ∨ p = 27 ∨ p = 28 ∨ p = 29 ∨ p = 30 ∨ p = 31 := by omega
theorem isP_no {p : Int} (h : p < 2 ∨ 31 < p) : isP p = false := by
  unfold isP
  apply decide_eq_false
  simp only [List.mem_cons, List.not_mem_nil, or_false]
  omega
theorem isP_range {p : Int} (h : isP p = true) : 2 ≤ p ∧ p ≤ 31 := by
  by_cases h1 : p < 2 ∨ 31 < p
  · rw [isP_no h1] at h; cases h
  · omega
theorem spec_prime_high (K : Bool → Option ρ) (p : Int) (h : 31 < p) : ∀ n : Nat, n ≤ 30 → ∀ m, n < m → spec_l01Prime.l0 6000 K p (spec_l01Prime.a0_0 6000 K p) m (32 - n) = K false := by
  intro n
  induction n with
  | zero =>
    intro _ m hm
    obtain ⟨m, rfl⟩ : ∃ k, m = k + 1 := ⟨m - 1, by omega⟩
    simp only [spec_l01Prime.l0, spec_l01Prime.b0, spec_l01Prime.a0_0, spec_l01In]
    have h2 : ¬ (p ≤ 31) := by omega
    have h3 : (2 : Int) ≤ p := by omega
    simp [h2, h3]
  | succ n ih =>
    intro hn m hm
    obtain ⟨m, rfl⟩ : ∃ k, m = k + 1 := ⟨m - 1, by omega⟩
    have ih := ih (by omega) m (by omega)
    have e : IntKind.i64.wrap ((32 : Int) - ((n + 1 : Nat) : Int) + 1) = 32 - (n : Int) := by
      rw [wrap64_id (by omega) (by omega)]; omega
    have hd : (32 : Int) - ((n + 1 : Nat) : Int) < p := by omega
    have h31 : (32 : Int) - ((n + 1 : Nat) : Int) ≤ 31 := by omega
    have h0 : ¬ ((32 : Int) - ((n + 1 : Nat) : Int) = 0) := by omega
    simp only [spec_l01Prime.l0, spec_l01Prime.b0, hd, h31, h0, decide_true, if_true, if_false, e, ih]
    split <;> rfl
theorem spec_prime (K : Bool → Option ρ) (p : Int) : spec_l01Prime 6000 K p = K (isP p) := by
  by_cases h2 : p < 2
  · rw [isP_no (.inl h2)]
    have h3 : ¬ (2 < p) := by omega
    have h4 : ¬ (p ≥ 2) := by omega
    show spec_l01Prime.b0 6000 K _ _ p 2 = _
    simp [spec_l01Prime.b0, spec_l01Prime.a0_0, spec_l01In, h3, h4]
  · by_cases h31 : 31 < p
    · rw [isP_no (.inr h31)]
      exact spec_prime_high K p h31 30 (by omega) 6000 (by omega)
    · rcases thirty (Int.not_lt.1 h2) (Int.not_lt.1 h31) with h|h|h|h|h|h|h|h|h|h|h|h|h|h|h|h|h|h|h|h|h|h|h|h|h|h|h|h|h|h <;> subst h <;> kernel_rfl
theorem impl_prime (K : Bool → Option ρ) (p : Int) : impl_IsPrime 6000 K p = K (isP p) := by
  by_cases h2 : p < 2
  · rw [isP_no (.inl h2)]
    simp [impl_IsPrime, impl_IsPrime.s, h2]
  · by_cases h31 : 31 < p
    · rw [isP_no (.inr h31)]
      have h3 : p > 31 := h31
      simp [impl_IsPrime, impl_IsPrime.s, h2, h3]
    · rcases thirty (Int.not_lt.1 h2) (Int.not_lt.1 h31) with h|h|h|h|h|h|h|h|h|h|h|h|h|h|h|h|h|h|h|h|h|h|h|h|h|h|h|h|h|h <;> subst h <;> kernel_rfl
def sizB (p n : Int) : Bool := isP p && (decide (1 ≤ n) && decide (n ≤ 8))
def vecB (p n : Int) (v : Nat → Int) : Bool := allN (fun i => !decide (IntKind.i64.wrap (v i) ≥ p) && (!decide ((i : Int) ≥ n) || !(v i != 0))) 0 8
def linB (p n : Int) (f : Nat → Int) : Bool := allN (fun i => vecB p n (fun z => f (i * 8 + z)) && (!decide ((i : Int) ≥ n) || eqN 8 (fun z => f (i * 8 + z)) (fun _ => 0))) 0 8
def tabB (p n : Int) (t : Nat → Int) : Bool := allN (fun i => linB p n (fun z => t (i * 64 + z)) && (!decide ((i : Int) ≥ n) || eqN 64 (fun z => t (i * 64 + z)) (fun _ => 0))) 0 8
theorem nx {i : Nat} (h : i < 100000) : IntKind.i64.wrap ((i : Int) + 1) = ((i + 1 : Nat) : Int) := by
  rw [wrap64_id (by omega) (by omega)]; omega
theorem K_if (K : Bool → Option ρ) (b : Bool) : (if b = true then K true else K false) = K b := by cases b <;> rfl
theorem spec_in (K : Bool → Option ρ) (n lo hi : Int) : spec_l01In 6000 K n lo hi = K (decide (lo ≤ n) && decide (n ≤ hi)) := by
  unfold spec_l01In
  by_cases h : n ≥ lo
  · have h' : lo ≤ n := h
    simp [h, h']
  · have h' : ¬ lo ≤ n := h
    simp [h, h']
theorem impl_in_eq (K : Bool → Option ρ) (n lo hi : Int) : impl_in 6000 K n lo hi = K (decide (lo ≤ n) && decide (n ≤ hi)) := by
  unfold impl_in
  by_cases h : lo ≤ n <;> simp [h]
theorem spec_sizes (K : Bool → Option ρ) (p n : Int) : spec_l01Sizes 6000 K p n = K (sizB p n) := by
  unfold spec_l01Sizes sizB
  rw [spec_prime]
  cases isP p
  · simp
  · simp [spec_in]
theorem spec_vector (K : Bool → Option ρ) (p n : Int) (v : Nat → Int) : spec_l01Vector 6000 K p n v = K (vecB p n v) := by
  rw [spec_l01Vector, spec_l01Vector.s]
  refine Eq.trans ?_ (K_if K _)
  refine loop_all (l := fun m i => spec_l01Vector.l0 6000 K p n v (spec_l01Vector.a0_0 6000 K) m (i : Int)) (n := 8) _ (fun m i hi => ?_) (fun m => ?_) 8 0 6000 (by omega) (by omega)
  · simp only [spec_l01Vector.l0, spec_l01Vector.b0]
    have h1 : (i : Int) < 8 := by omega
    have h2 : (0 : Int) ≤ i ∧ (i : Int) < 8 := by omega
    simp only [h1, h2, decide_true, if_true, and_self, Int.toNat_natCast, Nat.mul_one, nx (show i < 100000 by omega)]
    by_cases ha : IntKind.i64.wrap (v i) ≥ p
    · simp [ha]
    · by_cases hb : (i : Int) ≥ n
      · by_cases hc : (v i != 0) = true <;> simp [ha, hb, hc]
      · simp [ha, hb]
  · rfl
theorem impl_vectorLoop (K : Bool → Option ρ) (p n : Int) (v : Nat → Int) : impl_IsVector.l0 6000 K p n v (impl_IsVector.a0_0 6000 K) 6000 0 = K (vecB p n v) := by
  refine Eq.trans ?_ (K_if K _)
  refine loop_all (l := fun m i => impl_IsVector.l0 6000 K p n v (impl_IsVector.a0_0 6000 K) m (i : Int)) (n := 8) _ (fun m i hi => ?_) (fun m => ?_) 8 0 6000 (by omega) (by omega)
  · simp only [impl_IsVector.l0, impl_IsVector.b0]
    have h1 : (i : Int) < 8 := by omega
    have h2 : (0 : Int) ≤ i ∧ (i : Int) < 8 := by omega
    simp only [h1, h2, decide_true, if_true, and_self, Int.toNat_natCast, Nat.mul_one, nx (show i < 100000 by omega)]
    by_cases ha : IntKind.i64.wrap (v i) ≥ p
    · simp [ha]
    · by_cases hb : (i : Int) ≥ n
      · by_cases hc : (v i != 0) = true <;> simp [ha, hb, hc]
      · simp [ha, hb]
  · rfl
theorem impl_isVector (K : Bool → Option ρ) (p n : Int) (v : Nat → Int) : impl_IsVector 6000 K p n v = K (sizB p n && vecB p n v) := by
  simp only [impl_IsVector, impl_IsVector.s, impl_prime, impl_in_eq, impl_vectorLoop, sizB]
  cases isP p
  · simp
  · by_cases h1 : 1 ≤ n <;> by_cases h8 : n ≤ 8 <;> simp [h1, h8]
theorem spec_linear (K : Bool → Option ρ) (p n : Int) (f : Nat → Int) : spec_l01Linear 6000 K p n f = K (linB p n f) := by
  rw [spec_l01Linear, spec_l01Linear.s]
  refine Eq.trans ?_ (K_if K _)
  refine loop_all (l := fun m i => spec_l01Linear.l0 6000 K p n f (spec_l01Linear.a0_0 6000 K) m (i : Int)) (n := 8) _ (fun m i hi => ?_) (fun m => ?_) 8 0 6000 (by omega) (by omega)
  · simp only [spec_l01Linear.l0, spec_l01Linear.b0, spec_vector]
    have h1 : (i : Int) < 8 := by omega
    have h2 : (0 : Int) ≤ i ∧ (i : Int) < 8 := by omega
    simp only [h1, h2, decide_true, if_true, and_self, Int.toNat_natCast, Nat.mul_one, nx (show i < 100000 by omega)]
    cases vecB p n (fun z => f (i * 8 + z))
    · simp
    · by_cases hb : (i : Int) ≥ n
      · cases eqN 8 (fun z => f (i * 8 + z)) (fun _ => 0) <;> simp [hb]
      · simp [hb]
  · rfl
theorem spec_table (K : Bool → Option ρ) (p n : Int) (t : Nat → Int) : spec_l01Table 6000 K p n t = K (tabB p n t) := by
  rw [spec_l01Table, spec_l01Table.s]
  refine Eq.trans ?_ (K_if K _)
  refine loop_all (l := fun m i => spec_l01Table.l0 6000 K p n t (spec_l01Table.a0_0 6000 K) m (i : Int)) (n := 8) _ (fun m i hi => ?_) (fun m => ?_) 8 0 6000 (by omega) (by omega)
  · simp only [spec_l01Table.l0, spec_l01Table.b0, spec_linear]
    have h1 : (i : Int) < 8 := by omega
    have h2 : (0 : Int) ≤ i ∧ (i : Int) < 8 := by omega
    simp only [h1, h2, decide_true, if_true, and_self, Int.toNat_natCast, Nat.mul_one, nx (show i < 100000 by omega)]
    cases linB p n (fun z => t (i * 64 + z))
    · simp
    · by_cases hb : (i : Int) ≥ n
      · cases eqN 64 (fun z => t (i * 64 + z)) (fun _ => 0) <;> simp [hb]
      · simp [hb]
  · rfl
theorem impl_linear (K : Bool → Option ρ) (p n : Int) (f : Nat → Int) (hs : sizB p n = true) : impl_isLinear 6000 K p n n f = K (linB p n f) := by
  rw [impl_isLinear, impl_isLinear.s]
  refine Eq.trans ?_ (K_if K _)
  refine loop_all (l := fun m i => impl_isLinear.l0 6000 K p n n f (impl_isLinear.a0_0 6000 K) m (i : Int)) (n := 8) _ (fun m i hi => ?_) (fun m => ?_) 8 0 6000 (by omega) (by omega)
  · simp only [impl_isLinear.l0, impl_isLinear.b0, impl_isVector, hs, Bool.true_and]
    have h1 : (i : Int) < 8 := by omega
    have h2 : (0 : Int) ≤ i ∧ (i : Int) < 8 := by omega
    simp only [h1, h2, decide_true, if_true, and_self, Int.toNat_natCast, Nat.mul_one, nx (show i < 100000 by omega)]
    cases vecB p n (fun z => f (i * 8 + z))
    · simp
    · by_cases hb : (i : Int) ≥ n
      · cases eqN 8 (fun z => f (i * 8 + z)) (fun _ => 0) <;> simp [hb]
      · simp [hb]
  · rfl
theorem impl_table (K : Bool → Option ρ) (p n : Int) (t : Nat → Int) (hs : sizB p n = true) : impl_isTable 6000 K p n t = K (tabB p n t) := by
  rw [impl_isTable, impl_isTable.s]
  refine Eq.trans ?_ (K_if K _)
  refine loop_all (l := fun m i => impl_isTable.l0 6000 K p n t (impl_isTable.a0_0 6000 K) m (i : Int)) (n := 8) _ (fun m i hi => ?_) (fun m => ?_) 8 0 6000 (by omega) (by omega)
  · simp only [impl_isTable.l0, impl_isTable.b0, impl_linear _ _ _ _ hs]
    have h1 : (i : Int) < 8 := by omega
    have h2 : (0 : Int) ≤ i ∧ (i : Int) < 8 := by omega
    simp only [h1, h2, decide_true, if_true, and_self, Int.toNat_natCast, Nat.mul_one, nx (show i < 100000 by omega)]
    cases linB p n (fun z => t (i * 64 + z))
    · simp
    · by_cases hb : (i : Int) ≥ n
      · cases eqN 64 (fun z => t (i * 64 + z)) (fun _ => 0) <;> simp [hb]
      · simp [hb]
  · rfl
end Go.Proofs.Ytmjpfchbkolcbaa.H
namespace Go.Proofs.Ytmjpfchbkolcbaa.H
open Go Go.RowKit Go.Proofs.Ytmjpfchbkolcbaa.Hy
set_option linter.unusedVariables false
set_option linter.unusedSimpArgs false
set_option maxRecDepth 100000
variable {ρ : Type}
def inP (p : Int) (v : Nat → Int) : Prop := ∀ i, i < 8 → 0 ≤ v i ∧ v i < p
theorem spec_mod (K : Int → Option ρ) {p x : Int} (hp : 0 < p) (hp' : p ≤ 255) (hx : -1000000000000 ≤ x) (hx' : x ≤ 1000000000000) : spec_l01Mod 6000 K p x = K (x % p) := by
  have h0 : ¬ p = 0 := by omega
  have h1 := tmod_lt (x := x) hp
  have h2 := tmod_gt (x := x) hp
  have h3 : Int.tmod (IntKind.i64.wrap (Int.tmod x p + p)) p = x % p := by
    rw [wrap64_id (by omega) (by omega), Int.tmod_eq_emod_of_nonneg (by omega), Int.add_emod_right, tmod_emod]
  have h4 : 0 ≤ x % p := Int.emod_nonneg _ (by omega)
  have h5 : x % p < p := Int.emod_lt_of_pos _ hp
  simp only [spec_l01Mod, h0, if_false, h3]
  rw [wrap8_id h4 (by omega)]
theorem impl_mod (K : Int → Option ρ) {f : Nat → Int} {x : Int} (hp : 0 < f 0) (hp' : f 0 ≤ 255) : impl_field_mod 6000 K f x = K (x % f 0) := by
  have h0 : ¬ f 0 = 0 := by omega
  have h1 := tmod_lt (x := x) hp
  have h2 := tmod_gt (x := x) hp
  have h3 := tmod_emod (x := x) (p := f 0)
  simp only [impl_field_mod, h0, if_false]
  by_cases hneg : Int.tmod x (f 0) < 0
  · have e : x % f 0 = Int.tmod x (f 0) + f 0 := by
      rw [← h3, ← Int.add_emod_right, Int.emod_eq_of_lt (by omega) (by omega)]
    simp only [hneg, decide_true, if_true]
    rw [wrap64_id (by omega) (by omega), wrap8_id (by omega) (by omega), e]
  · have e : x % f 0 = Int.tmod x (f 0) := by
      rw [← h3, Int.emod_eq_of_lt (by omega) (by omega)]
    simp only [hneg, decide_false, if_false, Bool.false_eq_true]
    rw [wrap8_id (by omega) (by omega), e]
def addTo (p : Int) (v w : Nat → Int) (k : Int) (n : Nat) : Nat → Int := fun i => if i < n then (v i + k * w i) % p else v i
theorem addTo_next {p : Int} {v w : Nat → Int} {k : Int} {n : Nat} : upd (addTo p v w k n) n ((v n + k * w n) % p) = addTo p v w k (n + 1) := by
  funext i
  unfold upd addTo
  by_cases h : i = n
  · subst h; simp
  · by_cases h2 : i < n
    · simp [h, h2, show i < n + 1 by omega]
    · simp [h, h2, show ¬ i < n + 1 by omega]
theorem addTo_at {p : Int} {v w : Nat → Int} {k : Int} {n : Nat} : addTo p v w k n n = v n := by simp [addTo]
theorem mul_small {k x : Int} (hk : -1000000 ≤ k) (hk' : k ≤ 1000000) (hx : 0 ≤ x) (hx' : x ≤ 255) : -255000000 ≤ k * x ∧ k * x ≤ 255000000 := by
  have h1 : -1000000 * x ≤ k * x := Int.mul_le_mul_of_nonneg_right hk hx
  have h2 : k * x ≤ 1000000 * x := Int.mul_le_mul_of_nonneg_right hk' hx
  omega
theorem spec_add (K : (Nat → Int) → Option ρ) {p : Int} {v w : Nat → Int} {k : Int} (hp : 0 < p) (hp' : p ≤ 255) (hv : ∀ i, i < 8 → 0 ≤ v i ∧ v i ≤ 255) (hw : ∀ i, i < 8 → 0 ≤ w i ∧ w i ≤ 255) (hk : -1000000 ≤ k) (hk' : k ≤ 1000000) :
    spec_l01Add 6000 K p v w k = K (addV p v w k) := by
  rw [spec_l01Add, spec_l01Add.s]
  refine (loop_st (l := fun m i g => spec_l01Add.l0 6000 K p w k (fun o7 => spec_l01Add.a0_0 6000 K o7) m (i : Int) g) (n := 8) (addTo p v w k) (fun m i hi => ?_) (fun m => ?_) 8 0 6000 (by omega) (by omega))
  · simp only [spec_l01Add.l0, spec_l01Add.b0]
    have h1 : (i : Int) < 8 := by omega
    have h2 : (0 : Int) ≤ i ∧ (i : Int) < 8 := by omega
    have a1 := hv i hi
    have a2 := hw i hi
    have a3 := mul_small hk hk' a2.1 a2.2
    simp only [h1, h2, decide_true, if_true, and_self, Int.toNat_natCast, Nat.mul_one, nx (show i < 100000 by omega), addTo_at]
    rw [wrap64_id (x := v i) (by omega) (by omega), wrap64_id (x := w i) (by omega) (by omega), wrap64_id (x := k * w i) (by omega) (by omega), wrap64_id (x := v i + k * w i) (by omega) (by omega),
      spec_mod _ hp hp' (by omega) (by omega), addTo_next]
  · rfl
theorem impl_plus (K : (Nat → Int) → Option ρ) {f : Nat → Int} {w g : Nat → Int} {k : Int} (hp : 0 < f 0) (hp' : f 0 ≤ 255) (hv : inP (f 0) g) (hw : ∀ i, i < 8 → 0 ≤ w i ∧ w i ≤ 255) (hk : -1000000 ≤ k) (hk' : k ≤ 1000000) :
    impl_field_plus 6000 K f k w g = K (addV (f 0) g w k) := by
  by_cases hk0 : k = 0
  · subst hk0
    rw [addV_zero hv]
    rfl
  · have hkb : (k == 0) = false := by simpa using hk0
    simp only [impl_field_plus, impl_field_plus.s, hkb, Bool.false_eq_true, if_false]
    refine (loop_st (l := fun m i g => impl_field_plus.l0 6000 K f k w (fun o7 => impl_field_plus.a0_0 6000 K o7) m (i : Int) g) (n := 8) (addTo (f 0) g w k) (fun m i hi => ?_) (fun m => ?_) 8 0 6000 (by omega) (by omega))
    · simp only [impl_field_plus.l0, impl_field_plus.b0]
      have h1 : (i : Int) < 8 := by omega
      have h2 : (0 : Int) ≤ i ∧ (i : Int) < 8 := by omega
      have a1 := hv i hi
      have a2 := hw i hi
      have a3 := mul_small hk hk' a2.1 a2.2
      simp only [h1, h2, decide_true, if_true, and_self, Int.toNat_natCast, Nat.mul_one, nx (show i < 100000 by omega), addTo_at]
      rw [wrap64_id (x := g i) (by omega) (by omega), wrap64_id (x := w i) (by omega) (by omega), wrap64_id (x := k * w i) (by omega) (by omega), wrap64_id (x := g i + k * w i) (by omega) (by omega),
        impl_mod _ hp hp', addTo_next]
    · rfl
end Go.Proofs.Ytmjpfchbkolcbaa.H
namespace Go.Proofs.Ytmjpfchbkolcbaa.H
open Go Go.RowKit Go.Proofs.Ytmjpfchbkolcbaa.Hy
set_option linter.unusedVariables false
set_option linter.unusedSimpArgs false
set_option maxRecDepth 100000
variable {ρ : Type}
theorem inP_acc {p : Int} (hp : 0 < p) {n : Nat} {c : Nat → Int} {W : Nat → Nat → Int} : inP p (accV p n c W) := fun k _ => accV_range hp k
theorem inP_byte {p : Int} (hp' : p ≤ 255) {v : Nat → Int} (h : inP p v) : ∀ i, i < 8 → 0 ≤ v i ∧ v i ≤ 255 := fun i hi => by
  have := h i hi; omega
theorem accV_skip {p : Int} (hp : 0 < p) {n : Nat} {c : Nat → Int} {W : Nat → Nat → Int} (h : c n = 0) : accV p (n + 1) c W = accV p n c W := by
  rw [accV_succ, h, addV_zero (fun i _ => accV_range hp i)]
def applyV (p : Int) (n : Nat) (f v : Nat → Int) : Nat → Int := accV p n v (fun i z => f (i * 8 + z))
theorem spec_apply (K : (Nat → Int) → Option ρ) {p : Int} {n : Nat} {f v : Nat → Int} (hp : 0 < p) (hp' : p ≤ 255) (hn : n ≤ 8) (hv : inP p v) (hf : ∀ i, i < n → inP p (fun z => f (i * 8 + z))) :
    spec_l01Apply 6000 K p (n : Int) f v = K (applyV p n f v) := by
  simp only [spec_l01Apply, spec_l01Apply.s]
  rw [show (fun _ => 0 : Nat → Int) = accV p 0 v (fun i z => f (i * 8 + z)) from accV_zero.symm]
  refine (loop_st (l := fun m i g => spec_l01Apply.l0 6000 K p (n : Int) f v (fun o7 => spec_l01Apply.a0_0 6000 K o7) m (i : Int) g) (n := n) (fun i => accV p i v (fun i z => f (i * 8 + z))) (fun m i hi => ?_) (fun m => ?_) n 0 6000 (by omega) (by omega))
  · simp only [spec_l01Apply.l0, spec_l01Apply.b0]
    have h1 : (i : Int) < n := by omega
    have h2 : (0 : Int) ≤ i ∧ (i : Int) < 8 := by omega
    have a1 := hv i (by omega)
    simp only [h1, h2, decide_true, if_true, and_self, Int.toNat_natCast, Nat.mul_one, nx (show i < 100000 by omega)]
    by_cases h0 : v i = 0
    · have hb : (v i != 0) = false := by simp [h0]
      rw [accV_skip hp h0]
      simp [hb]
    · have hb : (v i != 0) = true := by simpa using h0
      simp only [hb, if_true]
      rw [wrap64_id (x := v i) (by omega) (by omega), spec_add _ hp hp' (inP_byte hp' (inP_acc hp)) (inP_byte hp' (hf i hi)) (by omega) (by omega), ← accV_succ]
  · simp [spec_l01Apply.l0, spec_l01Apply.b0, spec_l01Apply.a0_0, applyV]
def timesV (p : Int) (n : Nat) (m v w : Nat → Int) : Nat → Int := accV p n v (fun i k => sumN (fun j => w j * m (i * 64 + (j * 8 + k))) n)
theorem accV_congr {p : Int} {n : Nat} {c : Nat → Int} {W W' : Nat → Nat → Int} (h : ∀ i k, i < n → k < 8 → W i k % p = W' i k % p) : accV p n c W = accV p n c W' := by
  funext k
  unfold accV
  split
  · rename_i hk
    refine sumN_emod fun j hj => ?_
    rw [Int.mul_emod, h j k hj hk, ← Int.mul_emod]
  · rfl
theorem emod_emod' {x p : Int} : x % p % p = x % p := Int.emod_emod _ _
theorem spec_times (K : (Nat → Int) → Option ρ) {a0 a1 v w : Nat → Int} {n : Nat} (ha : a0 1 = n) (hp : 0 < a0 0) (hp' : a0 0 ≤ 255) (hn : n ≤ 8) (hv : inP (a0 0) v) (hw : inP (a0 0) w) (hm : ∀ i j, i < n → j < n → inP (a0 0) (fun z => a1 (8 + i * 64 + (j * 8 + z)))) :
    spec_l01Times 6000 K a0 a1 v w = K (timesV (a0 0) n (fun z => a1 (8 + z)) v w) := by
  simp only [spec_l01Times, spec_l01Times.s]
  rw [show (fun _ => 0 : Nat → Int) = accV (a0 0) 0 v (fun i => applyV (a0 0) n (fun z => a1 (8 + i * 64 + z)) w) from accV_zero.symm]
  refine (loop_st (l := fun m i g => spec_l01Times.l0 6000 K a0 a1 v w (fun o8 => spec_l01Times.a0_0 6000 K o8) m (i : Int) g) (n := n) (fun i => accV (a0 0) i v (fun i => applyV (a0 0) n (fun z => a1 (8 + i * 64 + z)) w)) (fun m i hi => ?_) (fun m => ?_) n 0 6000 (by omega) (by omega))
  · simp only [spec_l01Times.l0, spec_l01Times.b0]
    have h1 : (i : Int) < n := by omega
    have h2 : (0 : Int) ≤ i ∧ (i : Int) < 8 := by omega
    have a1' := hv i (by omega)
    simp only [ha, h1, h2, decide_true, if_true, and_self, Int.toNat_natCast, Nat.mul_one, nx (show i < 100000 by omega)]
    by_cases h0 : v i = 0
    · have hb : (v i != 0) = false := by simp [h0]
      rw [accV_skip hp h0]
      simp [hb]
    · have hb : (v i != 0) = true := by simpa using h0
      simp only [hb, if_true]
      rw [spec_apply _ hp hp' hn hw (fun j hj => hm i j hi hj)]
      have hap : inP (a0 0) (applyV (a0 0) n (fun z => a1 (8 + i * 64 + z)) w) := inP_acc hp
      rw [wrap64_id (x := v i) (by omega) (by omega), spec_add _ hp hp' (inP_byte hp' (inP_acc hp)) (inP_byte hp' hap) (by omega) (by omega), ← accV_succ]
  · simp only [spec_l01Times.l0, spec_l01Times.b0, ha, Int.lt_irrefl, decide_false, Bool.false_eq_true, if_false, spec_l01Times.a0_0]
    congr 1
    refine accV_congr fun i k hi hk => ?_
    simp only [applyV, accV, hk, if_true, emod_emod']
    congr 1
    refine sumN_congr fun j _ => ?_
    rw [show 8 + i * 64 + (j * 8 + k) = 8 + (i * 64 + (j * 8 + k)) by omega]
theorem accV_two {p : Int} (hp : 0 < p) {n i : Nat} {v w m : Nat → Int} {j : Nat} :
    addV p (fun k => if k < 8 then (sumN (fun i => v i * sumN (fun j => w j * m (i * 64 + (j * 8 + k))) n) i + v i * sumN (fun j => w j * m (i * 64 + (j * 8 + k))) j) % p else 0) (fun z => m (i * 64 + (j * 8 + z))) (v i * w j) =
      fun k => if k < 8 then (sumN (fun i => v i * sumN (fun j => w j * m (i * 64 + (j * 8 + k))) n) i + v i * sumN (fun j => w j * m (i * 64 + (j * 8 + k))) (j + 1)) % p else 0 := by
  funext k
  unfold addV
  by_cases hk : k < 8
  · simp only [hk, if_true, sumN]
    rw [Int.emod_add_emod, Int.mul_add, Int.mul_assoc, Int.add_assoc]
  · simp only [hk, if_false]
def part (p : Int) (n : Nat) (m v w : Nat → Int) (i j : Nat) : Nat → Int := fun k => if k < 8 then (sumN (fun i => v i * sumN (fun j => w j * m (i * 64 + (j * 8 + k))) n) i + v i * sumN (fun j => w j * m (i * 64 + (j * 8 + k))) j) % p else 0
theorem part_zero {p : Int} {n i : Nat} {m v w : Nat → Int} : part p n m v w i 0 = accV p i v (fun i k => sumN (fun j => w j * m (i * 64 + (j * 8 + k))) n) := by
  funext k
  simp [part, accV, sumN]
theorem part_all {p : Int} {n i : Nat} {m v w : Nat → Int} : part p n m v w i n = accV p (i + 1) v (fun i k => sumN (fun j => w j * m (i * 64 + (j * 8 + k))) n) := by
  funext k
  simp [part, accV, sumN]
theorem part_succ {p : Int} (hp : 0 < p) {n i j : Nat} {m v w : Nat → Int} : part p n m v w i (j + 1) = addV p (part p n m v w i j) (fun z => m (i * 64 + (j * 8 + z))) (v i * w j) := (accV_two hp).symm
theorem inP_part {p : Int} (hp : 0 < p) {n i j : Nat} {m v w : Nat → Int} : inP p (part p n m v w i j) := by
  intro k hk
  simp only [part, hk, if_true]
  exact ⟨Int.emod_nonneg _ (by omega), Int.emod_lt_of_pos _ hp⟩
theorem mul_range {p x y : Int} (hp' : p ≤ 255) (hx : 0 ≤ x ∧ x < p) (hy : 0 ≤ y ∧ y < p) : 0 ≤ x * y ∧ x * y ≤ 65025 := by
  have h1 := Int.mul_nonneg hx.1 hy.1
  have h2 : x * y ≤ 255 * y := Int.mul_le_mul_of_nonneg_right (by omega) hy.1
  omega
theorem impl_product (K : (Nat → Int) → Option ρ) {a0 a1 v w : Nat → Int} {n : Nat} (ha : a0 1 = n) (hp : 0 < a0 0) (hp' : a0 0 ≤ 255) (hn : n ≤ 8) (hv : inP (a0 0) v) (hw : inP (a0 0) w) (hm : ∀ i j, i < n → j < n → inP (a0 0) (fun z => a1 (8 + i * 64 + (j * 8 + z)))) :
    impl_Algebra_product 6000 K v w a0 a1 = K (timesV (a0 0) n (fun z => a1 (8 + z)) v w) := by
  simp only [impl_Algebra_product, impl_Algebra_product.s, impl_Algebra_field]
  have f0 : upd (upd (fun _ => 0) 0 (a0 0)) 1 (a0 1) 0 = a0 0 := by simp [upd]
  have f1 : upd (upd (fun _ => 0) 0 (a0 0)) 1 (a0 1) 1 = (n : Int) := by simp [upd, ha]
  generalize upd (upd (fun _ => 0) 0 (a0 0)) 1 (a0 1) = r at f0 f1
  rw [show (fun _ => 0 : Nat → Int) = accV (a0 0) 0 v (fun i k => sumN (fun j => w j * (fun z => a1 (8 + z)) (i * 64 + (j * 8 + k))) n) from accV_zero.symm]
  refine (loop_st (l := fun m i g => impl_Algebra_product.l0 6000 K v w a1 r (fun o11 => impl_Algebra_product.a0_0 6000 K o11) m (i : Int) g) (n := n) (fun i => accV (a0 0) i v (fun i k => sumN (fun j => w j * (fun z => a1 (8 + z)) (i * 64 + (j * 8 + k))) n)) (fun m i hi => ?_) (fun m => ?_) n 0 6000 (by omega) (by omega))
  · simp only [impl_Algebra_product.l0, impl_Algebra_product.b0]
    have h1 : (i : Int) < n := by omega
    have h2 : (0 : Int) ≤ i ∧ (i : Int) < 8 := by omega
    have a1' := hv i (by omega)
    simp only [f1, h1, h2, decide_true, if_true, and_self, Int.toNat_natCast, Nat.mul_one, nx (show i < 100000 by omega)]
    by_cases h0 : v i = 0
    · have hb : (v i == 0) = true := by simp [h0]
      rw [accV_skip hp h0]
      simp [hb]
    · have hb : (v i == 0) = false := by simpa using h0
      simp only [hb, Bool.false_eq_true, if_false]
      have e1 : accV (a0 0) i v (fun i k => sumN (fun j => w j * a1 (8 + (i * 64 + (j * 8 + k)))) n) = part (a0 0) n (fun z => a1 (8 + z)) v w i 0 := (part_zero (m := fun z => a1 (8 + z)) (w := w) (n := n)).symm
      have e2 : accV (a0 0) (i + 1) v (fun i k => sumN (fun j => w j * a1 (8 + (i * 64 + (j * 8 + k)))) n) = part (a0 0) n (fun z => a1 (8 + z)) v w i n := (part_all (m := fun z => a1 (8 + z)) (w := w) (n := n)).symm
      rw [e1, e2]
      refine (loop_st (l := fun m' j g => impl_Algebra_product.l1 6000 K v w a1 r (i : Int) (fun o10 => impl_Algebra_product.a1_0 6000 K (impl_Algebra_product.l0 6000 K v w a1 r (fun o11 => impl_Algebra_product.a0_0 6000 K o11) m) (fun o11 => impl_Algebra_product.a0_0 6000 K o11) (i : Int) o10) m' (j : Int) g) (n := n) (fun j => part (a0 0) n (fun z => a1 (8 + z)) v w i j) (fun m' j hj => ?_) (fun m' => ?_) n 0 6000 (by omega) (by omega))
      · simp only [impl_Algebra_product.l1, impl_Algebra_product.b1]
        have g1 : (j : Int) < n := by omega
        have g2 : (0 : Int) ≤ j ∧ (j : Int) < 8 := by omega
        have b1' := hw j (by omega)
        have c1 := mul_range hp' a1' b1'
        simp only [f1, g1, g2, h2, decide_true, if_true, and_self, Int.toNat_natCast, Nat.mul_one, nx (show j < 100000 by omega)]
        rw [wrap64_id (x := v i) (by omega) (by omega), wrap64_id (x := w j) (by omega) (by omega), wrap64_id (x := v i * w j) (by omega) (by omega)]
        have hmm : ∀ z, z < 8 → 0 ≤ a1 (8 + i * 64 + j * 8 + z) ∧ a1 (8 + i * 64 + j * 8 + z) ≤ 255 := by
          intro z hz
          have := hm i j hi hj z hz
          rw [show 8 + i * 64 + j * 8 + z = 8 + i * 64 + (j * 8 + z) by omega]
          simp only at this
          omega
        rw [impl_plus _ (by rw [f0]; exact hp) (by rw [f0]; exact hp') (by rw [f0]; exact inP_part hp) hmm (by omega) (by omega), f0, part_succ hp]
        have e3 : (fun z => a1 (8 + i * 64 + j * 8 + z)) = fun z => a1 (8 + (i * 64 + (j * 8 + z))) := by
          funext z
          rw [show 8 + i * 64 + j * 8 + z = 8 + (i * 64 + (j * 8 + z)) by omega]
        rw [e3]
      · simp only [impl_Algebra_product.l1, impl_Algebra_product.b1, f1, Int.lt_irrefl, decide_false, Bool.false_eq_true, if_false, impl_Algebra_product.a1_0, nx (show i < 100000 by omega)]
  · simp only [impl_Algebra_product.l0, impl_Algebra_product.b0, f1, Int.lt_irrefl, decide_false, Bool.false_eq_true, if_false, impl_Algebra_product.a0_0]
    rfl
theorem impl_basis_eq (K : (Nat → Int) → Option ρ) {i : Nat} (h : i < 8) : impl_basis 6000 K (i : Int) = K (upd (fun _ => 0) i 1) := by
  have h2 : (0 : Int) ≤ i ∧ (i : Int) < 8 := by omega
  simp [impl_basis, h2]
theorem spec_basis_eq (K : (Nat → Int) → Option ρ) {i : Nat} (h : i < 8) : spec_l01Basis 6000 K (i : Int) = K (upd (fun _ => 0) i 1) := by
  have h2 : (0 : Int) ≤ i ∧ (i : Int) < 8 := by omega
  simp [spec_l01Basis, h2]
end Go.Proofs.Ytmjpfchbkolcbaa.H
namespace Go.Proofs.Ytmjpfchbkolcbaa.H
open Go Go.RowKit Go.Proofs.Ytmjpfchbkolcbaa.Hy
set_option linter.unusedVariables false
set_option linter.unusedSimpArgs false
set_option maxRecDepth 100000
variable {ρ : Type}
theorem toVector_eq (K : (Nat → Int) → Option ρ) (a : Nat → Int) : laws_toVector 6000 K a = K (keepN 8 a) := by
  simp only [laws_toVector, laws_toVector.s]
  rw [show (fun _ => 0 : Nat → Int) = keepN 0 a from keepN_zero.symm]
  refine (loop_st (l := fun m i g => laws_toVector.l0 6000 K a (fun o => laws_toVector.a0_0 6000 K o) m (i : Int) g) (n := 8) (fun i => keepN i a) (fun m i hi => ?_) (fun m => ?_) 8 0 6000 (by omega) (by omega))
  · simp only [laws_toVector.l0, laws_toVector.b0]
    have h1 : (i : Int) < 8 := by omega
    have h2 : (0 : Int) ≤ i ∧ (i : Int) < 8 := by omega
    simp only [h1, h2, decide_true, if_true, and_self, Int.toNat_natCast, Nat.mul_one, nx (show i < 100000 by omega), keepN_next]
  · rfl
theorem toLinear_eq (K : (Nat → Int) → Option ρ) (a : Nat → Int) : laws_toLinear 6000 K a = K (keepN 64 a) := by
  simp only [laws_toLinear, laws_toLinear.s]
  rw [show (fun _ => 0 : Nat → Int) = keepN (0 * 8) a from keepN_zero.symm]
  refine (loop_st (l := fun m i g => laws_toLinear.l0 6000 K a (fun o => laws_toLinear.a0_0 6000 K o) m (i : Int) g) (n := 8) (fun i => keepN (i * 8) a) (fun m i hi => ?_) (fun m => ?_) 8 0 6000 (by omega) (by omega))
  · simp only [laws_toLinear.l0, laws_toLinear.b0, toVector_eq]
    have h1 : (i : Int) < 8 := by omega
    have h2 : (0 : Int) ≤ i ∧ (i : Int) < 8 := by omega
    simp only [h1, h2, decide_true, if_true, and_self, Int.toNat_natCast, Nat.mul_one, nx (show i < 100000 by omega)]
    rw [keepN_updN (fun z hz => by simp [keepN, hz]), show (i + 1) * 8 = i * 8 + 8 by omega]
  · rfl
theorem toTable_eq (K : (Nat → Int) → Option ρ) (a : Nat → Int) : laws_toTable 6000 K a = K (keepN 512 a) := by
  simp only [laws_toTable, laws_toTable.s]
  rw [show (fun _ => 0 : Nat → Int) = keepN (0 * 64) a from keepN_zero.symm]
  refine (loop_st (l := fun m i g => laws_toTable.l0 6000 K a (fun o => laws_toTable.a0_0 6000 K o) m (i : Int) g) (n := 8) (fun i => keepN (i * 64) a) (fun m i hi => ?_) (fun m => ?_) 8 0 6000 (by omega) (by omega))
  · simp only [laws_toTable.l0, laws_toTable.b0, toLinear_eq]
    have h1 : (i : Int) < 8 := by omega
    have h2 : (0 : Int) ≤ i ∧ (i : Int) < 8 := by omega
    simp only [h1, h2, decide_true, if_true, and_self, Int.toNat_natCast, Nat.mul_one, nx (show i < 100000 by omega)]
    rw [keepN_updN (fun z hz => by simp [keepN, hz]), show (i + 1) * 64 = i * 64 + 64 by omega]
  · rfl
theorem toAlgebra_eq (K : (Nat → Int) → (Nat → Int) → Option ρ) (a0 a1 : Nat → Int) : laws_toAlgebra 6000 K a0 a1 = K (keepN 2 a0) (keepN 520 a1) := by
  simp only [laws_toAlgebra, toVector_eq, toTable_eq]
  rw [keepN_two, keepN_520]
theorem keepN_byte {m : Nat} {a : Nat → Int} (h : ∀ i, IntKind.u8.has (a i)) : ∀ i, i < m → 0 ≤ keepN m a i ∧ keepN m a i ≤ 255 := by
  intro i hi
  rw [keepN_at hi]
  exact h i
def shB (a0 a1 : Nat → Int) : Bool := sizB (a0 0) (a0 1) && (vecB (a0 0) (a0 1) (fun z => a1 (0 + z)) && tabB (a0 0) (a0 1) (fun z => a1 (8 + z)))
theorem spec_shape (K : Bool → Option ρ) (a0 a1 : Nat → Int) : spec_l01Shape 6000 K a0 a1 = K (shB a0 a1) := by
  simp only [spec_l01Shape, spec_sizes, spec_vector, spec_table, shB]
  cases sizB (a0 0) (a0 1)
  · simp
  · cases vecB (a0 0) (a0 1) (fun z => a1 (0 + z)) <;> simp
theorem impl_shape (K : Bool → Option ρ) (a0 a1 : Nat → Int) : impl_Algebra_isShaped 6000 K a0 a1 = K (shB a0 a1) := by
  simp only [impl_Algebra_isShaped, impl_isVector, shB]
  by_cases hs : sizB (a0 0) (a0 1) = true
  · simp only [hs, Bool.true_and, impl_table _ _ _ _ hs]
    cases vecB (a0 0) (a0 1) (fun z => a1 (0 + z)) <;> simp
  · simp [hs]
theorem vecB_at {p n : Int} {v : Nat → Int} (h : vecB p n v = true) {i : Nat} (hi : i < 8) : IntKind.i64.wrap (v i) < p ∧ (n ≤ (i : Int) → v i = 0) := by
  have := allN_true.1 h i (by omega) (by omega)
  simp only [Bool.and_eq_true, Bool.not_eq_true', decide_eq_false_iff_not, Bool.or_eq_true] at this
  refine ⟨by omega, fun hn => ?_⟩
  rcases this.2 with h1 | h1
  · exact absurd hn h1
  · simpa using h1
theorem vecB_in {p n : Int} {v : Nat → Int} (h : vecB p n v = true) (hb : ∀ i, i < 8 → 0 ≤ v i ∧ v i ≤ 255) : inP p v := by
  intro i hi
  have h1 := (vecB_at h hi).1
  have h2 := hb i hi
  rw [wrap64_id (by omega) (by omega)] at h1
  omega
theorem linB_at {p n : Int} {f : Nat → Int} (h : linB p n f = true) {i : Nat} (hi : i < 8) : vecB p n (fun z => f (i * 8 + z)) = true ∧ (n ≤ (i : Int) → ∀ j, j < 8 → f (i * 8 + j) = 0) := by
  have := allN_true.1 h i (by omega) (by omega)
  simp only [Bool.and_eq_true, Bool.not_eq_true', decide_eq_false_iff_not, Bool.or_eq_true, eqN, decide_eq_true_eq] at this
  refine ⟨this.1, fun hn => ?_⟩
  rcases this.2 with h1 | h1
  · exact absurd hn h1
  · exact h1
theorem tabB_at {p n : Int} {t : Nat → Int} (h : tabB p n t = true) {i : Nat} (hi : i < 8) : linB p n (fun z => t (i * 64 + z)) = true ∧ (n ≤ (i : Int) → ∀ j, j < 64 → t (i * 64 + j) = 0) := by
  have := allN_true.1 h i (by omega) (by omega)
  simp only [Bool.and_eq_true, Bool.not_eq_true', decide_eq_false_iff_not, Bool.or_eq_true, eqN, decide_eq_true_eq] at this
  refine ⟨this.1, fun hn => ?_⟩
  rcases this.2 with h1 | h1
  · exact absurd hn h1
  · exact h1
theorem tabB_in {p : Int} {n : Nat} {t : Nat → Int} (h : tabB p n t = true) (hb : ∀ i, i < 512 → 0 ≤ t i ∧ t i ≤ 255) {i j : Nat} (hi : i < 8) (hj : j < 8) : inP p (fun z => t (i * 64 + (j * 8 + z))) := by
  have h1 := (linB_at (tabB_at h hi).1 hj).1
  exact vecB_in h1 fun z hz => hb _ (by omega)
theorem tabB_out {p : Int} {n : Nat} {t : Nat → Int} (h : tabB p n t = true) {i j k : Nat} (hi : i < 8) (hj : j < 8) (hk : k < 8) (ho : n ≤ i ∨ n ≤ j ∨ n ≤ k) : t (i * 64 + (j * 8 + k)) = 0 := by
  rcases ho with h1 | h1 | h1
  · exact (tabB_at h hi).2 (by omega) (j * 8 + k) (by omega)
  · exact (linB_at (tabB_at h hi).1 hj).2 (by omega) k hk
  · exact (vecB_at (linB_at (tabB_at h hi).1 hj).1 hk).2 (by omega)
theorem sizB_at {p m : Int} (h : sizB p m = true) : 2 ≤ p ∧ p ≤ 31 ∧ ∃ n : Nat, m = n ∧ 1 ≤ n ∧ n ≤ 8 := by
  simp only [sizB, Bool.and_eq_true, decide_eq_true_eq] at h
  have h1 := isP_range h.1
  exact ⟨h1.1, h1.2, m.toNat, by omega, by omega, by omega⟩
structure Shp (a0 a1 : Nat → Int) (n : Nat) : Prop where
  sh : shB a0 a1 = true
  siz : sizB (a0 0) (a0 1) = true
  size : a0 1 = n
  pos : 1 ≤ n
  le : n ≤ 8
  p0 : 0 < a0 0
  p2 : 2 ≤ a0 0
  p31 : a0 0 ≤ 31
  p255 : a0 0 ≤ 255
  unit : inP (a0 0) (fun z => a1 (0 + z))
  unit0 : ∀ i, i < 8 → n ≤ i → a1 (0 + i) = 0
  mul : ∀ i j, i < 8 → j < 8 → inP (a0 0) (fun z => a1 (8 + i * 64 + (j * 8 + z)))
  mul0 : ∀ i j k, i < 8 → j < 8 → k < 8 → (n ≤ i ∨ n ≤ j ∨ n ≤ k) → a1 (8 + (i * 64 + (j * 8 + k))) = 0
theorem shp_of {a0 a1 : Nat → Int} (h : shB a0 a1 = true) (hb : ∀ i, i < 520 → 0 ≤ a1 i ∧ a1 i ≤ 255) : ∃ n, Shp a0 a1 n := by
  have h0 := h
  simp only [shB, Bool.and_eq_true] at h
  obtain ⟨hs, hv, ht⟩ := h
  obtain ⟨p2, p31, n, hn, n1, n8⟩ := sizB_at hs
  rw [hn] at ht
  refine ⟨n, h0, hs, hn, n1, n8, by omega, p2, p31, by omega, vecB_in hv fun i hi => hb _ (by omega), fun i hi hni => (vecB_at hv hi).2 (by omega), fun i j hi hj z hz => ?_, fun i j k hi hj hk ho => tabB_out ht hi hj hk ho⟩
  have := tabB_in ht (fun i hi => hb _ (by omega)) hi hj z hz
  simp only at this ⊢
  rw [show 8 + i * 64 + (j * 8 + z) = 8 + (i * 64 + (j * 8 + z)) by omega]
  exact this
section
variable {a0 a1 : Nat → Int} {n : Nat}
theorem Shp.mul' (h : Shp a0 a1 n) {i j : Nat} (hi : i < 8) (hj : j < 8) : inP (a0 0) (fun z => a1 (8 + i * 64 + j * 8 + z)) := by
  intro z hz
  have := h.mul i j hi hj z hz
  simp only at this ⊢
  rw [show 8 + i * 64 + j * 8 + z = 8 + i * 64 + (j * 8 + z) by omega]
  exact this
theorem inP_basis {p : Int} (hp : 2 ≤ p) (i : Nat) : inP p (upd (fun _ => 0) i 1) := by
  intro j hj
  show 0 ≤ (if j = i then (1 : Int) else 0) ∧ (if j = i then (1 : Int) else 0) < p
  split <;> omega
def tm (a0 a1 : Nat → Int) (n : Nat) (v w : Nat → Int) : Nat → Int := timesV (a0 0) n (fun z => a1 (8 + z)) v w
theorem Shp.times (h : Shp a0 a1 n) (K : (Nat → Int) → Option ρ) {v w : Nat → Int} (hv : inP (a0 0) v) (hw : inP (a0 0) w) : spec_l01Times 6000 K a0 a1 v w = K (tm a0 a1 n v w) :=
  spec_times K h.size h.p0 h.p255 h.le hv hw fun i j hi hj => h.mul i j (by have := h.le; omega) (by have := h.le; omega)
theorem Shp.product (h : Shp a0 a1 n) (K : (Nat → Int) → Option ρ) {v w : Nat → Int} (hv : inP (a0 0) v) (hw : inP (a0 0) w) : impl_Algebra_product 6000 K v w a0 a1 = K (tm a0 a1 n v w) :=
  impl_product K h.size h.p0 h.p255 h.le hv hw fun i j hi hj => h.mul i j (by have := h.le; omega) (by have := h.le; omega)
abbrev eb (i : Nat) : Nat → Int := upd (fun _ => 0) i 1
def bad3 (a0 a1 : Nat → Int) (n i j k : Nat) : Option (Nat × Nat × Nat) :=
  if eqN 8 (tm a0 a1 n (fun z => a1 (8 + i * 64 + j * 8 + z)) (eb k)) (tm a0 a1 n (eb i) (fun z => a1 (8 + j * 64 + k * 8 + z))) = true then none else some (i, j, k)
def fault (a0 a1 : Nat → Int) (n : Nat) : Option (Nat × Nat × Nat) := firstN (fun i => firstN (fun j => firstN (fun k => bad3 a0 a1 n i j k) 0 n) 0 n) 0 n
def tri (t : Nat × Nat × Nat) : Nat → Int := upd (upd (upd (fun _ => 0) 0 (t.1 : Int)) 1 (t.2.1 : Int)) 2 (t.2.2 : Int)
theorem spec_fault (h : Shp a0 a1 n) (K0 : Nat → Nat → Bool → (Nat → Int) → Option ρ) (K1 : Bool → Option ρ) :
    spec_l01Fault 6000 K0 K1 a0 a1 = optK (fault a0 a1 n) (fun t => K0 3 3 true (tri t)) (K1 false) := by
  have hn := h.le
  refine loop_find (l := fun m i => spec_l01Fault.l0 6000 K0 K1 a0 a1 (spec_l01Fault.a0_0 6000 K0 K1) m (i : Int)) (n := n) (fun i => firstN (fun j => firstN (fun k => bad3 a0 a1 n i j k) 0 n) 0 n) (fun t => K0 3 3 true (tri t)) (fun m i hi => ?_) (fun m => ?_) n 0 6000 (by omega) (by omega)
  · simp only [spec_l01Fault.l0, spec_l01Fault.b0]
    have h1 : (i : Int) < n := by omega
    simp only [h.size, h1, decide_true, if_true]
    refine loop_find (l := fun m' j => spec_l01Fault.l1 6000 K0 K1 a0 a1 (i : Int) (spec_l01Fault.a1_0 6000 K0 K1 (spec_l01Fault.l0 6000 K0 K1 a0 a1 (spec_l01Fault.a0_0 6000 K0 K1) m) (spec_l01Fault.a0_0 6000 K0 K1) (i : Int)) m' (j : Int)) (n := n) (fun j => firstN (fun k => bad3 a0 a1 n i j k) 0 n) (fun t => K0 3 3 true (tri t)) (fun m' j hj => ?_) (fun m' => ?_) n 0 6000 (by omega) (by omega)
    · simp only [spec_l01Fault.l1, spec_l01Fault.b1]
      have h1 : (j : Int) < n := by omega
      simp only [h.size, h1, decide_true, if_true]
      refine loop_find (l := fun m'' k => spec_l01Fault.l2 6000 K0 K1 a0 a1 (i : Int) (j : Int) (spec_l01Fault.a2_0 6000 K0 K1 (spec_l01Fault.l1 6000 K0 K1 a0 a1 (i : Int) (spec_l01Fault.a1_0 6000 K0 K1 (spec_l01Fault.l0 6000 K0 K1 a0 a1 (spec_l01Fault.a0_0 6000 K0 K1) m) (spec_l01Fault.a0_0 6000 K0 K1) (i : Int)) m') (spec_l01Fault.a1_0 6000 K0 K1 (spec_l01Fault.l0 6000 K0 K1 a0 a1 (spec_l01Fault.a0_0 6000 K0 K1) m) (spec_l01Fault.a0_0 6000 K0 K1) (i : Int)) (j : Int)) m'' (k : Int)) (n := n) (fun k => bad3 a0 a1 n i j k) (fun t => K0 3 3 true (tri t)) (fun m'' k hk => ?_) (fun m'' => ?_) n 0 6000 (by omega) (by omega)
      · simp only [spec_l01Fault.l2, spec_l01Fault.b2]
        have h1 : (k : Int) < n := by omega
        have g1 : (0 : Int) ≤ i ∧ (i : Int) < 8 := by omega
        have g2 : (0 : Int) ≤ j ∧ (j : Int) < 8 := by omega
        have g3 : (0 : Int) ≤ k ∧ (k : Int) < 8 := by omega
        simp only [h.size, h1, g1, g2, g3, decide_true, if_true, and_self, spec_basis_eq _ (show k < 8 by omega), spec_basis_eq _ (show i < 8 by omega), Int.toNat_natCast, nx (show k < 100000 by omega)]
        rw [h.times _ (h.mul' (by omega) (by omega)) (inP_basis h.p2 _), h.times _ (inP_basis h.p2 _) (h.mul' (by omega) (by omega))]
        unfold bad3 eb
        cases eqN 8 (tm a0 a1 n (fun z => a1 (8 + i * 64 + j * 8 + z)) (upd (fun _ => 0) k 1)) (tm a0 a1 n (upd (fun _ => 0) i 1) (fun z => a1 (8 + j * 64 + k * 8 + z)))
        · simp [tri, optK]
        · simp [optK]
      · simp only [spec_l01Fault.l2, spec_l01Fault.b2, h.size, Int.lt_irrefl, decide_false, Bool.false_eq_true, if_false, spec_l01Fault.a2_0, nx (show j < 100000 by omega)]
    · simp only [spec_l01Fault.l1, spec_l01Fault.b1, h.size, Int.lt_irrefl, decide_false, Bool.false_eq_true, if_false, spec_l01Fault.a1_0, nx (show i < 100000 by omega)]
  · simp only [spec_l01Fault.l0, spec_l01Fault.b0, h.size, Int.lt_irrefl, decide_false, Bool.false_eq_true, if_false, spec_l01Fault.a0_0]
theorem impl_fault (h : Shp a0 a1 n) (K0 : Nat → Nat → (Nat → Int) → Option ρ) (K1 : Option ρ) :
    impl_Algebra_fault 6000 K0 K1 a0 a1 = optK (fault a0 a1 n) (fun t => K0 3 3 (tri t)) K1 := by
  have hn := h.le
  refine loop_find (l := fun m i => impl_Algebra_fault.l0 6000 K0 K1 a0 a1 (impl_Algebra_fault.a0_0 6000 K0 K1) m (i : Int)) (n := n) (fun i => firstN (fun j => firstN (fun k => bad3 a0 a1 n i j k) 0 n) 0 n) (fun t => K0 3 3 (tri t)) (fun m i hi => ?_) (fun m => ?_) n 0 6000 (by omega) (by omega)
  · simp only [impl_Algebra_fault.l0, impl_Algebra_fault.b0]
    have h1 : (i : Int) < n := by omega
    simp only [h.size, h1, decide_true, if_true]
    refine loop_find (l := fun m' j => impl_Algebra_fault.l1 6000 K0 K1 a0 a1 (i : Int) (impl_Algebra_fault.a1_0 6000 K0 K1 (impl_Algebra_fault.l0 6000 K0 K1 a0 a1 (impl_Algebra_fault.a0_0 6000 K0 K1) m) (impl_Algebra_fault.a0_0 6000 K0 K1) (i : Int)) m' (j : Int)) (n := n) (fun j => firstN (fun k => bad3 a0 a1 n i j k) 0 n) (fun t => K0 3 3 (tri t)) (fun m' j hj => ?_) (fun m' => ?_) n 0 6000 (by omega) (by omega)
    · simp only [impl_Algebra_fault.l1, impl_Algebra_fault.b1]
      have h1 : (j : Int) < n := by omega
      simp only [h.size, h1, decide_true, if_true]
      refine loop_find (l := fun m'' k => impl_Algebra_fault.l2 6000 K0 K1 a0 a1 (i : Int) (j : Int) (impl_Algebra_fault.a2_0 6000 K0 K1 (impl_Algebra_fault.l1 6000 K0 K1 a0 a1 (i : Int) (impl_Algebra_fault.a1_0 6000 K0 K1 (impl_Algebra_fault.l0 6000 K0 K1 a0 a1 (impl_Algebra_fault.a0_0 6000 K0 K1) m) (impl_Algebra_fault.a0_0 6000 K0 K1) (i : Int)) m') (impl_Algebra_fault.a1_0 6000 K0 K1 (impl_Algebra_fault.l0 6000 K0 K1 a0 a1 (impl_Algebra_fault.a0_0 6000 K0 K1) m) (impl_Algebra_fault.a0_0 6000 K0 K1) (i : Int)) (j : Int)) m'' (k : Int)) (n := n) (fun k => bad3 a0 a1 n i j k) (fun t => K0 3 3 (tri t)) (fun m'' k hk => ?_) (fun m'' => ?_) n 0 6000 (by omega) (by omega)
      · simp only [impl_Algebra_fault.l2, impl_Algebra_fault.b2]
        have h1 : (k : Int) < n := by omega
        have g1 : (0 : Int) ≤ i ∧ (i : Int) < 8 := by omega
        have g2 : (0 : Int) ≤ j ∧ (j : Int) < 8 := by omega
        have g3 : (0 : Int) ≤ k ∧ (k : Int) < 8 := by omega
        simp only [h.size, h1, g1, g2, g3, decide_true, if_true, and_self, impl_basis_eq _ (show k < 8 by omega), impl_basis_eq _ (show i < 8 by omega), Int.toNat_natCast, nx (show k < 100000 by omega)]
        rw [h.product _ (h.mul' (by omega) (by omega)) (inP_basis h.p2 _), h.product _ (inP_basis h.p2 _) (h.mul' (by omega) (by omega))]
        unfold bad3 eb
        cases eqN 8 (tm a0 a1 n (fun z => a1 (8 + i * 64 + j * 8 + z)) (upd (fun _ => 0) k 1)) (tm a0 a1 n (upd (fun _ => 0) i 1) (fun z => a1 (8 + j * 64 + k * 8 + z)))
        · simp [tri, optK]
        · simp [optK]
      · simp only [impl_Algebra_fault.l2, impl_Algebra_fault.b2, h.size, Int.lt_irrefl, decide_false, Bool.false_eq_true, if_false, impl_Algebra_fault.a2_0, nx (show j < 100000 by omega)]
    · simp only [impl_Algebra_fault.l1, impl_Algebra_fault.b1, h.size, Int.lt_irrefl, decide_false, Bool.false_eq_true, if_false, impl_Algebra_fault.a1_0, nx (show i < 100000 by omega)]
  · simp only [impl_Algebra_fault.l0, impl_Algebra_fault.b0, h.size, Int.lt_irrefl, decide_false, Bool.false_eq_true, if_false, impl_Algebra_fault.a0_0]
def unB (a0 a1 : Nat → Int) (n : Nat) : Bool :=
  allN (fun i => eqN 8 (tm a0 a1 n (fun z => a1 (0 + z)) (eb i)) (eb i) && eqN 8 (tm a0 a1 n (eb i) (fun z => a1 (0 + z))) (eb i)) 0 n
def algB (a0 a1 : Nat → Int) : Bool := shB a0 a1 && (unB a0 a1 (a0 1).toNat && (fault a0 a1 (a0 1).toNat).isNone)
theorem spec_is (hb : ∀ i, i < 520 → 0 ≤ a1 i ∧ a1 i ≤ 255) (K : Bool → Option ρ) : spec_l01Is 6000 K a0 a1 = K (algB a0 a1) := by
  simp only [spec_l01Is, spec_l01Is.s, spec_shape]
  by_cases hs : shB a0 a1 = true
  · obtain ⟨n, h⟩ := shp_of hs hb
    have hn := h.le
    have e : (a0 1).toNat = n := by rw [h.size]; rfl
    simp only [hs, Bool.not_true, Bool.false_eq_true, if_false, algB, Bool.true_and, e]
    refine (loop_all (l := fun m i => spec_l01Is.l0 6000 K a0 a1 (spec_l01Is.a0_0 6000 K a0 a1) m (i : Int)) (n := n) (fun i => eqN 8 (tm a0 a1 n (fun z => a1 (0 + z)) (eb i)) (eb i) && eqN 8 (tm a0 a1 n (eb i) (fun z => a1 (0 + z))) (eb i)) (no := K false) (out := K (fault a0 a1 n).isNone) (fun m i hi => ?_) (fun m => ?_) n 0 6000 (by omega) (by omega)).trans ?_
    · simp only [spec_l01Is.l0, spec_l01Is.b0]
      have h1 : (i : Int) < n := by omega
      simp only [h.size, h1, decide_true, if_true, spec_basis_eq _ (show i < 8 by omega), nx (show i < 100000 by omega)]
      rw [h.times _ h.unit (inP_basis h.p2 _)]
      unfold eb
      cases eqN 8 (tm a0 a1 n (fun z => a1 (0 + z)) (upd (fun _ => 0) i 1)) (upd (fun _ => 0) i 1)
      · simp
      · simp only [Bool.not_true, Bool.false_eq_true, if_false, Bool.true_and]
        rw [h.times _ (inP_basis h.p2 _) h.unit]
        cases eqN 8 (tm a0 a1 n (upd (fun _ => 0) i 1) (fun z => a1 (0 + z))) (upd (fun _ => 0) i 1) <;> simp
    · simp only [spec_l01Is.l0, spec_l01Is.b0, h.size, Int.lt_irrefl, decide_false, Bool.false_eq_true, if_false, spec_l01Is.a0_0]
      rw [spec_fault h]
      cases fault a0 a1 n <;> rfl
    · show _ = K (unB a0 a1 n && _)
      unfold unB
      split
      · rename_i hu; first | (rw [hu]; rfl) | (rw [Bool.eq_false_iff.2 hu]; rfl)
      · rename_i hu; first | (rw [hu]; rfl) | (rw [Bool.eq_false_iff.2 hu]; rfl)
  · have hs' : shB a0 a1 = false := by simpa using hs
    simp [hs', algB]
theorem impl_is (hb : ∀ i, i < 520 → 0 ≤ a1 i ∧ a1 i ≤ 255) (K : Bool → Option ρ) : impl_IsAlgebra 6000 K a0 a1 = K (algB a0 a1) := by
  simp only [impl_IsAlgebra, impl_IsAlgebra.s, impl_shape]
  by_cases hs : shB a0 a1 = true
  · obtain ⟨n, h⟩ := shp_of hs hb
    have hn := h.le
    have e : (a0 1).toNat = n := by rw [h.size]; rfl
    simp only [hs, Bool.not_true, Bool.false_eq_true, if_false, algB, Bool.true_and, e]
    refine (loop_all (l := fun m i => impl_IsAlgebra.l0 6000 K a0 a1 (impl_IsAlgebra.a0_0 6000 K a0 a1) m (i : Int)) (n := n) (fun i => eqN 8 (tm a0 a1 n (fun z => a1 (0 + z)) (eb i)) (eb i) && eqN 8 (tm a0 a1 n (eb i) (fun z => a1 (0 + z))) (eb i)) (no := K false) (out := K (fault a0 a1 n).isNone) (fun m i hi => ?_) (fun m => ?_) n 0 6000 (by omega) (by omega)).trans ?_
    · simp only [impl_IsAlgebra.l0, impl_IsAlgebra.b0]
      have h1 : (i : Int) < n := by omega
      simp only [h.size, h1, decide_true, if_true, impl_basis_eq _ (show i < 8 by omega), nx (show i < 100000 by omega)]
      rw [h.product _ h.unit (inP_basis h.p2 _)]
      unfold eb
      cases eqN 8 (tm a0 a1 n (fun z => a1 (0 + z)) (upd (fun _ => 0) i 1)) (upd (fun _ => 0) i 1)
      · simp
      · simp only [Bool.not_true, Bool.false_eq_true, if_false, Bool.true_and]
        rw [h.product _ (inP_basis h.p2 _) h.unit]
        cases eqN 8 (tm a0 a1 n (upd (fun _ => 0) i 1) (fun z => a1 (0 + z))) (upd (fun _ => 0) i 1) <;> simp
    · simp only [impl_IsAlgebra.l0, impl_IsAlgebra.b0, h.size, Int.lt_irrefl, decide_false, Bool.false_eq_true, if_false, impl_IsAlgebra.a0_0]
      rw [impl_fault h]
      cases fault a0 a1 n <;> rfl
    · show _ = K (unB a0 a1 n && _)
      unfold unB
      split
      · rename_i hu; first | (rw [hu]; rfl) | (rw [Bool.eq_false_iff.2 hu]; rfl)
      · rename_i hu; first | (rw [hu]; rfl) | (rw [Bool.eq_false_iff.2 hu]; rfl)
  · have hs' : shB a0 a1 = false := by simpa using hs
    simp [hs', algB]
end
end Go.Proofs.Ytmjpfchbkolcbaa.H
namespace Go.Proofs.Ytmjpfchbkolcbaa.H
open Go Go.RowKit Go.Proofs.Ytmjpfchbkolcbaa.Hy
set_option linter.unusedVariables false
set_option linter.unusedSimpArgs false
def Cg (p : Int) (n : Nat) (v w : Nat → Int) : Prop := ∀ i, i < n → p ∣ v i - w i
theorem Cg.refl {p : Int} {n : Nat} {v : Nat → Int} : Cg p n v v := fun i _ => by rw [Int.sub_self]; exact Int.dvd_zero _
theorem Cg.symm {p : Int} {n : Nat} {v w : Nat → Int} (h : Cg p n v w) : Cg p n w v := fun i hi => by
  obtain ⟨t, e⟩ := h i hi; exact ⟨-t, by rw [Int.mul_neg, ← e]; omega⟩
theorem Cg.trans {p : Int} {n : Nat} {u v w : Nat → Int} (h : Cg p n u v) (g : Cg p n v w) : Cg p n u w := fun i hi => by
  obtain ⟨t, e⟩ := h i hi; obtain ⟨s, f⟩ := g i hi; exact ⟨t + s, by rw [Int.mul_add, ← e, ← f]; omega⟩
theorem Cg.add {p : Int} {n : Nat} {v w v' w' : Nat → Int} (h : Cg p n v v') (g : Cg p n w w') : Cg p n (fun i => v i + w i) (fun i => v' i + w' i) := fun i hi => by
  obtain ⟨t, e⟩ := h i hi; obtain ⟨s, f⟩ := g i hi; exact ⟨t + s, by simp only [Int.mul_add, ← e, ← f]; omega⟩
theorem Cg.mul {p : Int} {n : Nat} {v v' : Nat → Int} (a : Int) (h : Cg p n v v') : Cg p n (fun i => a * v i) (fun i => a * v' i) := fun i hi => by
  obtain ⟨t, e⟩ := h i hi; exact ⟨a * t, by simp only; rw [← Int.mul_sub, e, Int.mul_left_comm]⟩
theorem Cg.of_eq {p : Int} {n : Nat} {v w : Nat → Int} (h : ∀ i, i < n → v i = w i) : Cg p n v w := fun i hi => by rw [h i hi, Int.sub_self]; exact Int.dvd_zero _
theorem Cg.mod {p : Int} {n : Nat} {v : Nat → Int} : Cg p n (fun i => v i % p) v := fun i _ => by
  exact ⟨-(v i / p), by have := Int.emod_add_mul_ediv (v i) p; rw [Int.mul_neg]; simp only; omega⟩
theorem Cg.eq_of {p : Int} {n : Nat} {v w : Nat → Int} (h : Cg p n v w) (hv : ∀ i, i < n → 0 ≤ v i ∧ v i < p) (hw : ∀ i, i < n → 0 ≤ w i ∧ w i < p) : ∀ i, i < n → v i = w i := fun i hi => by
  have h1 := Int.emod_emod_of_dvd (v i) (Int.dvd_refl p)
  have h2 := Int.emod_eq_emod_iff_emod_sub_eq_zero.2 (Int.emod_eq_zero_of_dvd (h i hi))
  rw [Int.emod_eq_of_lt (hv i hi).1 (hv i hi).2, Int.emod_eq_of_lt (hw i hi).1 (hw i hi).2] at h2
  exact h2
inductive Sp (p : Int) (n : Nat) (G : (Nat → Int) → Prop) : (Nat → Int) → Prop
  | zero {v : Nat → Int} (h : Cg p n v fun _ => 0) : Sp p n G v
  | add {v w r : Nat → Int} (a : Int) (hv : Sp p n G v) (hr : G r) (h : Cg p n w fun i => v i + a * r i) : Sp p n G w
theorem Sp.cg {p : Int} {n : Nat} {G : (Nat → Int) → Prop} {v w : Nat → Int} (h : Sp p n G v) (g : Cg p n w v) : Sp p n G w := by
  cases h with
  | zero h => exact .zero (g.trans h)
  | add a hv hr h => exact .add a hv hr (g.trans h)
theorem Sp.of {p : Int} {n : Nat} {G : (Nat → Int) → Prop} {r : Nat → Int} (h : G r) : Sp p n G r := .add 1 (.zero .refl) h (Cg.of_eq fun i _ => by simp)
theorem Sp.plus {p : Int} {n : Nat} {G : (Nat → Int) → Prop} {v w : Nat → Int} (h : Sp p n G v) (g : Sp p n G w) : Sp p n G fun i => v i + w i := by
  induction g with
  | zero g => exact h.cg fun i hi => by obtain ⟨t, e⟩ := g i hi; exact ⟨t, by rw [← e]; show _ - _ = _ - (0 : Int); omega⟩
  | add a hv hr g ih => exact .add a ih hr ((Cg.refl.add g).trans (Cg.of_eq fun i _ => by omega))
theorem Sp.times {p : Int} {n : Nat} {G : (Nat → Int) → Prop} {v : Nat → Int} (a : Int) (h : Sp p n G v) : Sp p n G fun i => a * v i := by
  induction h with
  | zero h => exact .zero ((h.mul a).trans (Cg.of_eq fun i _ => by simp))
  | add b hv hr h ih => exact .add (a * b) ih hr ((h.mul a).trans (Cg.of_eq fun i _ => by simp only [Int.mul_add, Int.mul_assoc]))
theorem Sp.mono {p : Int} {n : Nat} {G H : (Nat → Int) → Prop} {v : Nat → Int} (h : Sp p n G v) (g : ∀ r, G r → Sp p n H r) : Sp p n H v := by
  induction h with
  | zero h => exact .zero h
  | add b hv hr h ih => exact (ih.plus ((g _ hr).times b)).cg h
theorem Sp.sum {p : Int} {n : Nat} {G : (Nat → Int) → Prop} {f : Nat → Nat → Int} {c : Nat → Int} : ∀ {m : Nat}, (∀ k, k < m → Sp p n G (f k)) → Sp p n G fun i => sumN (fun k => c k * f k i) m
  | 0, _ => .zero .refl
  | m + 1, h => (Sp.sum (m := m) fun k hk => h k (by omega)).plus ((h m (by omega)).times (c m))
def Rw (m : Nat) (R : Nat → Nat → Int) : (Nat → Int) → Prop := fun r => ∃ k, k < m ∧ r = R k
structure Red (p : Int) (n m : Nat) (R : Nat → Nat → Int) (l : Nat → Nat) : Prop where
  inn : ∀ k, k < m → l k < n
  up : ∀ j k, j < k → k < m → l j < l k
  one : ∀ k, k < m → p ∣ R k (l k) - 1
  oth : ∀ j k, j < m → k < m → j ≠ k → p ∣ R k (l j)
  low : ∀ k i, k < m → i < l k → p ∣ R k i
variable {p : Int} {n m m' : Nat} {R R' : Nat → Nat → Int} {l l' : Nat → Nat}
theorem Red.le (h : Red p n m R l) {j k : Nat} (hj : j ≤ k) (hk : k < m) : l j ≤ l k := by
  by_cases e : j = k
  · subst e; exact Nat.le_refl _
  · exact Nat.le_of_lt (h.up j k (by omega) hk)
theorem Red.inj (h : Red p n m R l) {j k : Nat} (hj : j < m) (hk : k < m) (e : l j = l k) : j = k := by
  by_cases h1 : j < k
  · have := h.up j k h1 hk; omega
  · by_cases h2 : k < j
    · have := h.up k j h2 hj; omega
    · omega
theorem sumN_dvd {f : Nat → Int} : ∀ {m : Nat}, (∀ k, k < m → p ∣ f k) → p ∣ sumN f m
  | 0, _ => Int.dvd_zero _
  | m + 1, h => Int.dvd_add (sumN_dvd (m := m) fun k hk => h k (by omega)) (h m (by omega))
theorem sumN_sub {f g : Nat → Int} : ∀ {m : Nat}, sumN f m - sumN g m = sumN (fun k => f k - g k) m
  | 0 => by simp [sumN]
  | m + 1 => by simp only [sumN]; rw [← sumN_sub (m := m)]; omega
theorem Red.proj (h : Red p n m R l) {v : Nat → Int} (g : Sp p n (Rw m R) v) : Cg p n v fun i => sumN (fun k => v (l k) * R k i) m := by
  induction g with
  | @zero v g =>
    refine fun i hi => Int.dvd_sub (by have := g i hi; simpa using this) (sumN_dvd fun k hk => Int.dvd_mul_of_dvd_left ?_)
    have := g (l k) (h.inn k hk); simpa using this
  | @add v w r a hv hr g ih =>
    obtain ⟨j, hj, rfl⟩ := hr
    intro i hi
    obtain ⟨t1, e1⟩ := g i hi
    obtain ⟨t2, e2⟩ := ih i hi
    have h3 : p ∣ R j i - sumN (fun k => R j (l k) * R k i) m := by
      have e : R j i = sumN (fun k => if k = j then R j i else 0) m := by
        rw [sumN_one (i := j) hj (fun k _ hne => by simp [hne])]; simp
      rw [e, sumN_sub]
      refine sumN_dvd fun k hk => ?_
      by_cases hkj : k = j
      · subst hkj
        simp only [if_true]
        obtain ⟨t, e⟩ := h.one k hk
        have e9 : R k (l k) = p * t + 1 := by omega
        refine ⟨-(t * R k i), ?_⟩
        rw [e9, Int.add_mul, Int.one_mul, Int.mul_neg, Int.mul_assoc]; omega
      · simp only [hkj, if_false]
        obtain ⟨t, e⟩ := h.oth k j hk hj hkj
        exact ⟨-(t * R k i), by rw [e, Int.mul_neg, Int.mul_assoc]; omega⟩
    have h4 : p ∣ sumN (fun k => (w (l k) - (v (l k) + a * R j (l k))) * R k i) m :=
      sumN_dvd fun k hk => Int.dvd_mul_of_dvd_left (g (l k) (h.inn k hk))
    obtain ⟨t3, e3⟩ := h3
    obtain ⟨t4, e4⟩ := h4
    have e5 : sumN (fun k => (w (l k) - (v (l k) + a * R j (l k))) * R k i) m = sumN (fun k => w (l k) * R k i) m - (sumN (fun k => v (l k) * R k i) m + a * sumN (fun k => R j (l k) * R k i) m) := by
      rw [sumN_mul, sumN_add, sumN_sub]
      exact sumN_congr fun k _ => by simp only [Int.sub_mul, Int.add_mul, Int.mul_assoc]
    refine ⟨t1 + t2 + a * t3 - t4, ?_⟩
    have e6 : a * (R j i - sumN (fun k => R j (l k) * R k i) m) = a * (p * t3) := by rw [e3]
    rw [Int.mul_sub] at e6
    have e7 : p * (t1 + t2 + a * t3 - t4) = p * t1 + p * t2 + a * (p * t3) - p * t4 := by
      rw [Int.mul_sub, Int.mul_add, Int.mul_add, Int.mul_left_comm]
    rw [e7, ← e1, ← e2, ← e6, ← e4, e5]
    simp only
    omega
theorem Red.lead (h : Red p n m R l) {v : Nat → Int} (g : Sp p n (Rw m R) v) {c : Nat} (hc : c < n) (h1 : ¬ p ∣ v c) (h0 : ∀ i, i < c → p ∣ v i) : ∃ k, k < m ∧ l k = c := by
  apply Classical.byContradiction
  intro hn
  apply h1
  obtain ⟨t, e⟩ := h.proj g c hc
  have : p ∣ sumN (fun k => v (l k) * R k c) m := by
    refine sumN_dvd fun k hk => ?_
    by_cases h2 : l k < c
    · exact Int.dvd_mul_of_dvd_left (h0 _ h2)
    · have h3 : l k ≠ c := fun e => hn ⟨k, hk, e⟩
      exact Int.dvd_mul_of_dvd_right (h.low k c hk (by omega))
  obtain ⟨s, f⟩ := this
  exact ⟨t + s, by rw [Int.mul_add, ← e, ← f]; simp only; omega⟩
theorem not_dvd_one (hp : 1 < p) {x : Int} (h : p ∣ x - 1) : ¬ p ∣ x := fun g => by
  have h2 : p ∣ x - (x - 1) := Int.dvd_sub g h
  have e : x - (x - 1) = 1 := by omega
  rw [e] at h2
  have := Int.le_of_dvd (by omega) h2
  omega
theorem rise_same {m m' : Nat} {l l' : Nat → Nat} (u : ∀ j k, j < k → k < m → l j < l k) (u' : ∀ j k, j < k → k < m' → l' j < l' k)
    (a : ∀ k, k < m → ∃ j, j < m' ∧ l' j = l k) (b : ∀ k, k < m' → ∃ j, j < m ∧ l j = l' k) (k : Nat) : k < m → k < m' ∧ l k = l' k := by
  induction k using Nat.strongRecOn with
  | ind k ih =>
    intro hk
    have mono : ∀ {m : Nat} {l : Nat → Nat}, (∀ j k, j < k → k < m → l j < l k) → ∀ {j k}, j ≤ k → k < m → l j ≤ l k := by
      intro m l u j k hjk hk
      by_cases e : j = k
      · subst e; exact Nat.le_refl _
      · exact Nat.le_of_lt (u j k (by omega) hk)
    obtain ⟨j, hj, e⟩ := a k hk
    have hkj : k ≤ j := by
      apply Classical.byContradiction; intro h
      have h1 := ih j (by omega) (by omega)
      have h2 := u j k (by omega) hk
      omega
    have hk' : k < m' := by omega
    obtain ⟨i, hi, e'⟩ := b k hk'
    have hki : k ≤ i := by
      apply Classical.byContradiction; intro h
      have h1 := ih i (by omega) (by omega)
      have h2 := u' i k (by omega) hk'
      omega
    have h3 := mono u hki hi
    have h4 := mono u' hkj hj
    exact ⟨hk', by omega⟩
theorem Red.same (hp : 1 < p) (h : Red p n m R l) (h' : Red p n m' R' l') (a : ∀ k, k < m → Sp p n (Rw m' R') (R k)) (b : ∀ k, k < m' → Sp p n (Rw m R) (R' k)) :
    m = m' ∧ ∀ k, k < m → l k = l' k ∧ Cg p n (R k) (R' k) := by
  have A : ∀ k, k < m → ∃ j, j < m' ∧ l' j = l k := fun k hk => h'.lead (a k hk) (h.inn k hk) (not_dvd_one hp (h.one k hk)) (fun i hi => h.low k i hk hi)
  have B : ∀ k, k < m' → ∃ j, j < m ∧ l j = l' k := fun k hk => h.lead (b k hk) (h'.inn k hk) (not_dvd_one hp (h'.one k hk)) (fun i hi => h'.low k i hk hi)
  have S := rise_same h.up h'.up A B
  have S' := rise_same h'.up h.up B A
  have em : m = m' := by
    apply Classical.byContradiction; intro hne
    by_cases hlt : m < m'
    · have := (S' m hlt).1; omega
    · have := (S m' (by omega)).1; omega
  refine ⟨em, fun k hk => ⟨(S k hk).2, ?_⟩⟩
  subst em
  have g := h.proj (b k hk)
  refine (g.trans fun i hi => ?_).symm
  have e : R k i = sumN (fun j => if j = k then R k i else 0) m := by
    rw [sumN_one (i := k) hk (fun j _ hne => by simp [hne])]; simp
  rw [e, sumN_sub]
  refine sumN_dvd fun j hj => ?_
  rw [(S j hj).2]
  by_cases hkj : j = k
  · subst hkj
    simp only [if_true]
    obtain ⟨t, e⟩ := h'.one j hj
    have e9 : R' j (l' j) = p * t + 1 := by omega
    refine ⟨t * R j i, ?_⟩
    rw [e9, Int.add_mul, Int.one_mul, Int.mul_assoc]; omega
  · simp only [hkj, if_false]
    obtain ⟨t, e⟩ := h'.oth j k hj hk hkj
    exact ⟨t * R j i, by rw [e, Int.mul_assoc]; omega⟩
end Go.Proofs.Ytmjpfchbkolcbaa.H
namespace Go.Proofs.Ytmjpfchbkolcbaa.H
open Go Go.RowKit Go.Proofs.Ytmjpfchbkolcbaa.Hy
set_option linter.unusedVariables false
set_option linter.unusedSimpArgs false
section
variable {p : Int} {n m : Nat} {R : Nat → Nat → Int} {l : Nat → Nat}
def Sub (p : Int) (n : Nat) (G H : (Nat → Int) → Prop) : Prop := ∀ r, G r → Sp p n H r
def Un (G : (Nat → Int) → Prop) (v : Nat → Int) : (Nat → Int) → Prop := fun r => G r ∨ r = v
theorem Sub.trans {G H J : (Nat → Int) → Prop} (a : Sub p n G H) (b : Sub p n H J) : Sub p n G J := fun r h => (a r h).mono b
theorem Sub.refl {G : (Nat → Int) → Prop} : Sub p n G G := fun r h => .of h
theorem Sub.un {G H : (Nat → Int) → Prop} {v : Nat → Int} (a : Sub p n G H) (b : Sp p n H v) : Sub p n (Un G v) H := fun r h => by
  rcases h with h | rfl
  · exact a r h
  · exact b
theorem Sub.left {G : (Nat → Int) → Prop} {v : Nat → Int} : Sub p n G (Un G v) := fun r h => .of (.inl h)
theorem dvd_of_eq {a b : Int} (h : p ∣ a) (e : b = a) : p ∣ b := e ▸ h
def lessW (R : Nat → Nat → Int) (w : Nat → Int) (a : Nat) (k : Nat) : Nat → Int := fun i => R k i - R k a * w i
def ixT (t k : Nat) : Nat := if k < t then k else k - 1
def putR (R : Nat → Nat → Int) (w : Nat → Int) (a t : Nat) (k : Nat) : Nat → Int := if k = t then w else lessW R w a (ixT t k)
def putL (l : Nat → Nat) (a t : Nat) (k : Nat) : Nat := if k = t then a else l (ixT t k)
structure Ins (p : Int) (n m : Nat) (R : Nat → Nat → Int) (l : Nat → Nat) (w : Nat → Int) (a t : Nat) : Prop where
  red : Red p n m R l
  an : a < n
  w1 : p ∣ w a - 1
  wlow : ∀ i, i < a → p ∣ w i
  wl : ∀ k, k < m → p ∣ w (l k)
  tm : t ≤ m
  h1 : ∀ j, j < t → l j < a
  h2 : ∀ j, t ≤ j → j < m → a < l j
theorem Red.cg {R' : Nat → Nat → Int} (h : Red p n m R l) (g : ∀ k, k < m → Cg p n (R' k) (R k)) : Red p n m R' l := by
  have key : ∀ k i, k < m → i < n → ∀ x, p ∣ R k i - x → p ∣ R' k i - x := fun k i hk hi x hx => by
    have := Int.dvd_add (g k hk i hi) hx
    exact dvd_of_eq this (by omega)
  refine ⟨h.inn, h.up, fun k hk => key k _ hk (h.inn k hk) 1 (h.one k hk), fun j k hj hk hne => ?_, fun k i hk hi => ?_⟩
  · have := key k (l j) hk (h.inn j hj) 0 (by rw [Int.sub_zero]; exact h.oth j k hj hk hne)
    rwa [Int.sub_zero] at this
  · have := key k i hk (by have := h.inn k hk; omega) 0 (by rw [Int.sub_zero]; exact h.low k i hk hi)
    rwa [Int.sub_zero] at this
variable {w : Nat → Int} {a t : Nat}
theorem Ins.f1 (h : Ins p n m R l w a t) {j : Nat} (hj : j < m) : p ∣ lessW R w a j (l j) - 1 := by
  have := Int.dvd_sub (h.red.one j hj) (Int.dvd_mul_of_dvd_right (b := R j a) (h.wl j hj))
  exact dvd_of_eq this (by unfold lessW; omega)
theorem Ins.f2 (h : Ins p n m R l w a t) {i j : Nat} (hi : i < m) (hj : j < m) (hne : i ≠ j) : p ∣ lessW R w a j (l i) :=
  Int.dvd_sub (h.red.oth i j hi hj hne) (Int.dvd_mul_of_dvd_right (h.wl i hi))
theorem Ins.f3 (h : Ins p n m R l w a t) {j : Nat} : p ∣ lessW R w a j a := by
  have := Int.dvd_mul_of_dvd_right (b := - R j a) h.w1
  refine dvd_of_eq this ?_
  unfold lessW
  rw [Int.mul_sub, Int.neg_mul, Int.mul_one]; omega
theorem Ins.f4 (h : Ins p n m R l w a t) {i j : Nat} (hj : j < m) (hi : i < l j) : p ∣ lessW R w a j i := by
  by_cases hjt : j < t
  · exact Int.dvd_sub (h.red.low j i hj hi) (Int.dvd_mul_of_dvd_right (h.wlow i (by have := h.h1 j hjt; omega)))
  · exact Int.dvd_sub (h.red.low j i hj hi) (Int.dvd_mul_of_dvd_left (h.red.low j a hj (h.h2 j (by omega) hj)))
theorem Ins.put (h : Ins p n m R l w a t) : Red p n (m + 1) (putR R w a t) (putL l a t) := by
  have ht := h.tm
  have ix : ∀ k, k < m + 1 → k ≠ t → ixT t k < m := fun k hk hne => by unfold ixT; split <;> omega
  refine ⟨fun k hk => ?_, fun j k hjk hk => ?_, fun k hk => ?_, fun j k hj hk hne => ?_, fun k i hk hi => ?_⟩
  · unfold putL; split
    · exact h.an
    · exact h.red.inn _ (ix k hk ‹_›)
  · unfold putL
    by_cases e : j = t
    · have e2 : k ≠ t := by omega
      rw [if_pos e, if_neg e2]
      refine h.h2 _ ?_ (ix k hk e2)
      unfold ixT; split <;> omega
    · rw [if_neg e]
      by_cases e2 : k = t
      · rw [if_pos e2]
        have : ixT t j = j := by unfold ixT; rw [if_pos (by omega)]
        rw [this]
        exact h.h1 j (by omega)
      · rw [if_neg e2]
        refine h.red.up _ _ ?_ (ix k hk e2)
        unfold ixT; split <;> split <;> omega
  · unfold putL putR
    by_cases e : k = t
    · rw [if_pos e, if_pos e]; exact h.w1
    · rw [if_neg e, if_neg e]; exact h.f1 (ix k hk e)
  · unfold putL putR
    by_cases e : j = t
    · have e2 : k ≠ t := by omega
      rw [if_pos e, if_neg e2]; exact h.f3
    · rw [if_neg e]
      by_cases e2 : k = t
      · rw [if_pos e2]; exact h.wl _ (ix j hj e)
      · rw [if_neg e2]
        refine h.f2 (ix j hj e) (ix k hk e2) ?_
        unfold ixT; split <;> split <;> omega
  · unfold putL at hi
    unfold putR
    by_cases e : k = t
    · rw [if_pos e] at hi
      rw [if_pos e]; exact h.wlow i hi
    · rw [if_neg e] at hi
      rw [if_neg e]; exact h.f4 (ix k hk e) hi
theorem Ins.sub1 (h : Ins p n m R l w a t) : Sub p n (Rw (m + 1) (putR R w a t)) (Un (Rw m R) w) := by
  rintro r ⟨k, hk, rfl⟩
  have ht := h.tm
  unfold putR
  by_cases e : k = t
  · rw [if_pos e]; exact .of (.inr rfl)
  · rw [if_neg e]
    have hk' : ixT t k < m := by unfold ixT; split <;> omega
    refine .add (- R (ixT t k) a) (.of (.inl ⟨_, hk', rfl⟩)) (.inr rfl) (Cg.of_eq fun i _ => ?_)
    unfold lessW
    rw [Int.neg_mul]; omega
theorem Ins.sub2 (h : Ins p n m R l w a t) : Sub p n (Un (Rw m R) w) (Rw (m + 1) (putR R w a t)) := by
  have ht := h.tm
  have hw : Rw (m + 1) (putR R w a t) w := ⟨t, by omega, by unfold putR; rw [if_pos rfl]⟩
  rintro r (⟨k, hk, rfl⟩ | rfl)
  · have hf : Rw (m + 1) (putR R w a t) (lessW R w a k) := by
      refine ⟨if k < t then k else k + 1, by split <;> omega, ?_⟩
      unfold putR ixT
      by_cases e : k < t
      · simp only [if_pos e]; rw [if_neg (by omega)]
      · simp only [if_neg e]; rw [if_neg (by omega), if_neg (by omega)]; rfl
    refine .add (R k a) (.of hf) hw (Cg.of_eq fun i _ => ?_)
    unfold lessW; omega
  · exact .of hw
structure Elim (p : Int) (N c d : Nat) (S : Nat → Nat → Int) (pl : Nat → Nat) : Prop where
  dN : d ≤ N
  plc : ∀ k, k < d → pl k < c
  up : ∀ j k, j < k → k < d → pl j < pl k
  one : ∀ k, k < d → p ∣ S k (pl k) - 1
  oth : ∀ j k, j < d → k < N → j ≠ k → p ∣ S k (pl j)
  low : ∀ k i, k < d → i < pl k → p ∣ S k i
  zer : ∀ k i, d ≤ k → k < N → i < c → p ∣ S k i
variable {N c d : Nat} {S S' : Nat → Nat → Int} {pl : Nat → Nat}
theorem Elim.init : Elim p N 0 0 S pl := ⟨by omega, fun k h => by omega, fun _ _ _ h => by omega, fun k h => by omega, fun j k h => by omega, fun k i h => by omega, fun k i _ _ h => by omega⟩
theorem Elim.skip (h : Elim p N c d S pl) (g : ∀ k, d ≤ k → k < N → p ∣ S k c) : Elim p N (c + 1) d S pl :=
  ⟨h.dN, fun k hk => by have := h.plc k hk; omega, h.up, h.one, h.oth, h.low, fun k i h1 h2 h3 => by
    by_cases e : i = c
    · subst e; exact g k h1 h2
    · exact h.zer k i h1 h2 (by omega)⟩
def swapR (S : Nat → Nat → Int) (d e : Nat) : Nat → Nat → Int := fun k => if k = e then S d else if k = d then S e else S k
theorem Elim.swap (h : Elim p N c d S pl) {e : Nat} (he : d ≤ e) (hN : e < N) : Elim p N c d (swapR S d e) pl := by
  have lo : ∀ k, k < d → swapR S d e k = S k := fun k hk => by unfold swapR; rw [if_neg (by omega), if_neg (by omega)]
  have hi : ∀ k, d ≤ k → k < N → ∃ k', d ≤ k' ∧ k' < N ∧ swapR S d e k = S k' := fun k h1 h2 => by
    unfold swapR
    by_cases e1 : k = e
    · exact ⟨d, by omega, by omega, by rw [if_pos e1]⟩
    · by_cases e2 : k = d
      · exact ⟨e, he, hN, by rw [if_neg e1, if_pos e2]⟩
      · exact ⟨k, h1, h2, by rw [if_neg e1, if_neg e2]⟩
  refine ⟨h.dN, h.plc, h.up, fun k hk => by rw [lo k hk]; exact h.one k hk, fun j k hj hk hne => ?_, fun k i hk hi' => by rw [lo k hk]; exact h.low k i hk hi', fun k i h1 h2 h3 => ?_⟩
  · by_cases hkd : k < d
    · rw [lo k hkd]; exact h.oth j k hj hk hne
    · obtain ⟨k', g1, g2, g3⟩ := hi k (by omega) hk
      rw [g3]; exact h.oth j k' hj g2 (by omega)
  · obtain ⟨k', g1, g2, g3⟩ := hi k h1 h2
    rw [g3]; exact h.zer k' i g1 g2 h3
theorem Elim.step (h : Elim p N c d S pl) (hd : d < N) {n : Nat} (hc : c < n) {b : Int} (hb : p ∣ b * S d c - 1) (hS : Cg p n (S' d) fun i => b * S d i) (hO : ∀ k, k < N → k ≠ d → Cg p n (S' k) fun i => S k i - S k c * S' d i) :
    Elim p N (c + 1) (d + 1) S' (fun k => if k = d then c else pl k) := by
  have d1 : p ∣ S' d c - 1 := by
    have := Int.dvd_add (hS c hc) hb
    exact dvd_of_eq this (by simp only; omega)
  have dz : ∀ i, i < n → p ∣ S d i → p ∣ S' d i := fun i hi hz => by
    have := Int.dvd_add (hS i hi) (Int.dvd_mul_of_dvd_right (b := b) hz)
    exact dvd_of_eq this (by simp only; omega)
  have kz : ∀ k i, k < N → k ≠ d → i < n → p ∣ S k i → p ∣ S d i → p ∣ S' k i := fun k i hk hne hi h1 h2 => by
    have := Int.dvd_add (hO k hk hne i hi) (Int.dvd_sub h1 (Int.dvd_mul_of_dvd_right (b := S k c) (dz i hi h2)))
    exact dvd_of_eq this (by simp only; omega)
  have kc : ∀ k, k < N → k ≠ d → p ∣ S' k c := fun k hk hne => by
    have h2 := Int.dvd_mul_of_dvd_right (b := - S k c) d1
    have := Int.dvd_add (hO k hk hne c hc) h2
    refine dvd_of_eq this ?_
    simp only [Int.mul_sub, Int.neg_mul, Int.mul_one]; omega
  refine ⟨by omega, fun k hk => ?_, fun j k hjk hk => ?_, fun k hk => ?_, fun j k hj hk hne => ?_, fun k i hk hi => ?_, fun k i h1 h2 h3 => ?_⟩
  · split
    · omega
    · have := h.plc k (by omega); omega
  · skip
    rw [if_neg (show ¬ j = d by omega)]
    by_cases e : k = d
    · rw [if_pos e]; exact h.plc j (by omega)
    · rw [if_neg e]; exact h.up j k hjk (by omega)
  · skip
    by_cases e : k = d
    · subst e; rw [if_pos rfl]; exact d1
    · rw [if_neg e]
      have hk' : k < d := by omega
      have hp := h.plc k hk'
      have h1 := h.zer d (pl k) (by omega) hd hp
      have h2 := Int.dvd_add (hO k (by omega) e (pl k) (by omega)) (Int.dvd_sub (h.one k hk') (Int.dvd_mul_of_dvd_right (b := S k c) (dz (pl k) (by omega) h1)))
      exact dvd_of_eq h2 (by simp only; omega)
  · skip
    by_cases e : j = d
    · subst e; rw [if_pos rfl]; exact kc k hk (by omega)
    · rw [if_neg e]
      have hj' : j < d := by omega
      have hp := h.plc j hj'
      have h1 := h.zer d (pl j) (by omega) hd hp
      by_cases e2 : k = d
      · subst e2; exact dz _ (by omega) h1
      · exact kz k _ hk e2 (by omega) (h.oth j k hj' hk hne) h1
  · skip
    by_cases e : k = d
    · subst e
      rw [if_pos rfl] at hi
      exact dz i (by omega) (h.zer k i (by omega) hd hi)
    · rw [if_neg e] at hi
      have hp := h.plc k (by omega)
      exact kz k i (by omega) e (by omega) (h.low k i (by omega) hi) (h.zer d i (by omega) hd (by omega))
  · by_cases e : i = c
    · subst e; exact kc k h2 (by omega)
    · exact kz k i h2 (by omega) (by omega) (h.zer k i (by omega) h2 (by omega)) (h.zer d i (by omega) hd (by omega))
theorem Elim.done (h : Elim p N c d S pl) {n : Nat} (hcn : c ≤ n) (hc : c = n ∨ d = N) : Red p n d S pl ∧ Sub p n (Rw N S) (Rw d S) ∧ Sub p n (Rw d S) (Rw N S) := by
  have hdN := h.dN
  refine ⟨⟨fun k hk => by have := h.plc k hk; omega, h.up, h.one, fun j k hj hk hne => h.oth j k hj (by omega) hne, h.low⟩, ?_, ?_⟩
  · rintro r ⟨k, hk, rfl⟩
    by_cases hkd : k < d
    · exact .of ⟨k, hkd, rfl⟩
    · refine .zero fun i hi => ?_
      rw [Int.sub_zero]
      rcases hc with rfl | rfl
      · exact h.zer k i (by omega) hk hi
      · omega
  · rintro r ⟨k, hk, rfl⟩
    exact .of ⟨k, by omega, rfl⟩
theorem swap_sub {e : Nat} (hd : d < N) (he : e < N) : Sub p n (Rw N (swapR S d e)) (Rw N S) ∧ Sub p n (Rw N S) (Rw N (swapR S d e)) := by
  constructor
  · rintro r ⟨k, hk, rfl⟩
    unfold swapR
    split
    · exact .of ⟨d, hd, rfl⟩
    · split
      · exact .of ⟨e, he, rfl⟩
      · exact .of ⟨k, hk, rfl⟩
  · rintro r ⟨k, hk, rfl⟩
    by_cases e1 : k = d
    · subst e1; exact .of ⟨e, he, by unfold swapR; rw [if_pos rfl]⟩
    · by_cases e2 : k = e
      · subst e2; exact .of ⟨d, hd, by unfold swapR; rw [if_neg (by omega), if_pos rfl]⟩
      · exact .of ⟨k, hk, by unfold swapR; rw [if_neg e2, if_neg e1]⟩
theorem step_sub (hd : d < N) {b : Int} (hb : p ∣ b * S d c - 1) (hS : Cg p n (S' d) fun i => b * S d i) (hO : ∀ k, k < N → k ≠ d → Cg p n (S' k) fun i => S k i - S k c * S' d i) :
    Sub p n (Rw N S') (Rw N S) ∧ Sub p n (Rw N S) (Rw N S') := by
  have a1 : Sp p n (Rw N S) (S' d) := (Sp.times b (.of ⟨d, hd, rfl⟩)).cg hS
  have a2 : Sp p n (Rw N S') (S d) := by
    refine (Sp.times (S d c) (.of (r := S' d) ⟨d, hd, rfl⟩)).cg ?_
    refine Cg.symm ((hS.mul (S d c)).trans fun i hi => ?_)
    have := Int.dvd_mul_of_dvd_left (c := S d i) hb
    refine dvd_of_eq this ?_
    simp only [Int.sub_mul, Int.one_mul]
    rw [Int.mul_comm b (S d c), Int.mul_assoc]
  constructor
  · rintro r ⟨k, hk, rfl⟩
    by_cases e : k = d
    · subst e; exact a1
    · refine ((Sp.of (r := S k) ⟨k, hk, rfl⟩).plus (a1.times (- S k c))).cg ((hO k hk e).trans (Cg.of_eq fun i _ => ?_))
      simp only [Int.neg_mul]; omega
  · rintro r ⟨k, hk, rfl⟩
    by_cases e : k = d
    · subst e; exact a2
    · refine ((Sp.of (r := S' k) ⟨k, hk, rfl⟩).plus (Sp.times (S k c) (.of (r := S' d) ⟨d, hd, rfl⟩))).cg fun i hi => ?_
      obtain ⟨x, ex⟩ := hO k hk e i hi
      exact ⟨-x, by rw [Int.mul_neg, ← ex]; simp only; omega⟩
end
end Go.Proofs.Ytmjpfchbkolcbaa.H
namespace Go.Proofs.Ytmjpfchbkolcbaa.H
open Go Go.RowKit Go.Proofs.Ytmjpfchbkolcbaa.Hy
set_option linter.unusedVariables false
set_option linter.unusedSimpArgs false
set_option maxRecDepth 100000
section
variable {ρ : Type}
def seekN (good : Nat → Bool) : Nat → Nat → Nat
  | i, 0 => i
  | i, k + 1 => if good i = true then i else seekN good (i + 1) k
theorem seekN_range {good : Nat → Bool} : ∀ {k i : Nat}, i ≤ seekN good i k ∧ seekN good i k ≤ i + k
  | 0, i => by simp [seekN]
  | k + 1, i => by
    simp only [seekN]
    split
    · omega
    · have := seekN_range (good := good) (k := k) (i := i + 1); omega
theorem seekN_low {good : Nat → Bool} : ∀ {k i : Nat}, ∀ j, i ≤ j → j < seekN good i k → good j = false
  | 0, i, j, h1, h2 => by simp only [seekN] at h2; omega
  | k + 1, i, j, h1, h2 => by
    simp only [seekN] at h2
    split at h2
    · omega
    · rename_i hg
      by_cases e : j = i
      · subst e; simpa using hg
      · exact seekN_low (k := k) (i := i + 1) j (by omega) h2
theorem seekN_good {good : Nat → Bool} : ∀ {k i : Nat}, seekN good i k < i + k → good (seekN good i k) = true
  | 0, i, h => by simp only [seekN] at h; omega
  | k + 1, i, h => by
    simp only [seekN] at h ⊢
    by_cases hg : good i = true
    · rw [if_pos hg]; exact hg
    · rw [if_neg hg] at h ⊢
      exact seekN_good (k := k) (i := i + 1) (by omega)
theorem seekN_lt {good : Nat → Bool} {k i j : Nat} (h1 : i ≤ j) (h2 : j < i + k) (hg : good j = true) : seekN good i k ≤ j := by
  apply Classical.byContradiction
  intro hn
  have := seekN_low (good := good) (k := k) (i := i) j h1 (by omega)
  rw [hg] at this; cases this
theorem loop_seek {l : Nat → Nat → Option ρ} {n : Nat} (good : Nat → Bool) (X : Nat → Option ρ) (hs : ∀ m i, i < n → l (m + 1) i = if good i = true then X i else l m (i + 1)) (ho : ∀ m, l (m + 1) n = X n) :
    ∀ (k i m : Nat), i + k = n → k < m → l m i = X (seekN good i k)
  | 0, i, m, h, hm => by
    obtain ⟨m, rfl⟩ : ∃ k, m = k + 1 := ⟨m - 1, by omega⟩
    have : i = n := by omega
    subst this
    exact ho m
  | k + 1, i, m, h, hm => by
    obtain ⟨m, rfl⟩ : ∃ k, m = k + 1 := ⟨m - 1, by omega⟩
    rw [hs m i (by omega)]
    simp only [seekN]
    by_cases hb : good i = true
    · rw [if_pos hb, if_pos hb]
    · rw [if_neg hb, if_neg hb]
      exact loop_seek good X hs ho k (i + 1) m (by omega) (by omega)
def first8 (v : Nat → Int) : Nat := seekN (fun i => !decide (v i = 0)) 0 8
theorem first8_low {v : Nat → Int} {i : Nat} (h : i < first8 v) : v i = 0 := by
  have := seekN_low (good := fun i => !decide (v i = 0)) (k := 8) (i := 0) i (by omega) h
  simpa using this
theorem first8_at {v : Nat → Int} (h : first8 v < 8) : v (first8 v) ≠ 0 := by
  have := seekN_good (good := fun i => !decide (v i = 0)) (k := 8) (i := 0) (by show first8 v < 0 + 8; omega)
  unfold first8
  simpa using this
theorem first8_le {v : Nat → Int} {i : Nat} (hi : i < 8) (h : v i ≠ 0) : first8 v ≤ i :=
  seekN_lt (good := fun i => !decide (v i = 0)) (by omega) (by omega) (by simpa using h)
theorem first8_is {v : Nat → Int} {i : Nat} (hi : i < 8) (h : v i ≠ 0) (h0 : ∀ j, j < i → v j = 0) : first8 v = i := by
  have h1 := first8_le hi h
  apply Classical.byContradiction
  intro hn
  exact first8_at (v := v) (by omega) (h0 _ (by omega))
theorem spec_first (K : Int → Option ρ) (v : Nat → Int) : spec_l01First 6000 K v = K ((first8 v : Nat) : Int) := by
  unfold spec_l01First spec_l01First.s first8
  refine loop_seek (l := fun N i => spec_l01First.l0 6000 K v (fun ov2 => spec_l01First.a0_0 6000 K ov2) N (i : Int)) (n := 8) (fun i => !decide (v i = 0)) (fun i => K (i : Int)) (fun q i hi => ?_) (fun q => ?_) 8 0 6000 (by omega) (by omega)
  · simp only [spec_l01First.l0, spec_l01First.b0]
    have h1 : (i : Int) < 8 := by omega
    have h2 : (0 : Int) ≤ i ∧ (i : Int) < 8 := by omega
    simp only [h1, h2, decide_true, if_true, and_self, Int.toNat_natCast, Nat.mul_one, nx (show i < 100000 by omega), spec_l01First.a0_0]
    by_cases e : v i = 0
    · simp [e]
    · simp [e]
  · rfl
def invN (p x : Int) : Nat := seekN (fun k => decide ((k : Int) * x % p = 1)) 1 30
theorem inv_ex {p x : Int} (hp : isP p = true) (h0 : 0 < x) (h1 : x < p) : ∃ k : Nat, 0 < k ∧ (k : Int) < p ∧ (k : Int) * x % p = 1 := by
  obtain ⟨y, rfl⟩ : ∃ y : Nat, x = y := ⟨x.toNat, by omega⟩
  have key : ∀ q : Nat, q ∈ [2, 3, 5, 7, 11, 13, 17, 19, 23, 29, 31] → ∀ y, y < q → 0 < y → ∃ k, k < q ∧ 0 < k ∧ k * y % q = 1 := by decide +kernel
  unfold isP at hp
  simp only [decide_eq_true_eq] at hp
  obtain ⟨q, rfl⟩ : ∃ q : Nat, p = q := ⟨p.toNat, by simp only [List.mem_cons, List.mem_nil_iff, or_false] at hp; omega⟩
  have hq : q ∈ [2, 3, 5, 7, 11, 13, 17, 19, 23, 29, 31] := by
    simp only [List.mem_cons, List.mem_nil_iff, or_false] at hp ⊢; omega
  obtain ⟨k, h2, h3, h4⟩ := key q hq y (by omega) (by omega)
  exact ⟨k, h3, by omega, by rw [← Int.natCast_mul, ← Int.natCast_emod, h4]; rfl⟩
theorem invN_ok {p x : Int} (hp : isP p = true) (h0 : 0 < x) (h1 : x < p) : 0 < invN p x ∧ (invN p x : Int) < p ∧ p ∣ (invN p x : Int) * x - 1 := by
  obtain ⟨k, h2, h3, h4⟩ := inv_ex hp h0 h1
  have hr := isP_range hp
  have g1 : invN p x ≤ k := seekN_lt (by omega) (by omega) (by simpa using h4)
  have g2 := (seekN_range (good := fun k => decide ((k : Int) * x % p = 1)) (k := 30) (i := 1)).1
  have g3 := seekN_good (good := fun k => decide ((k : Int) * x % p = 1)) (k := 30) (i := 1) (by unfold invN at g1; omega)
  refine ⟨by unfold invN; omega, by omega, ?_⟩
  simp only [decide_eq_true_eq] at g3
  have := Int.emod_add_mul_ediv ((invN p x : Int) * x) p
  exact ⟨(invN p x : Int) * x / p, by unfold invN at *; omega⟩
theorem spec_inverse (K : Int → Option ρ) {p x : Int} (hp : isP p = true) (h0 : 0 < x) (h1 : x < p) : spec_l01Inverse 6000 K p x = K (invN p x : Int) := by
  have hr := isP_range hp
  obtain ⟨k, h2, h3, h4⟩ := inv_ex hp h0 h1
  unfold spec_l01Inverse spec_l01Inverse.s
  have main : ∀ (n i q : Nat), i + n = 31 → n < q → 1 ≤ i → (∀ j, 1 ≤ j → j < i → ¬ (j : Int) * x % p = 1) → spec_l01Inverse.l0 6000 K p x (spec_l01Inverse.a0_0 6000 K) q (i : Int) = K (seekN (fun k => decide ((k : Int) * x % p = 1)) i n : Int) := by
    intro n
    induction n with
    | zero =>
      intro i q e _ _ hj
      exact absurd h4 (hj k (by omega) (by omega))
    | succ n ih =>
      intro i q e hq hi hj
      obtain ⟨q, rfl⟩ : ∃ k, q = k + 1 := ⟨q - 1, by omega⟩
      have hik : i ≤ k := by
        apply Classical.byContradiction; intro hn
        exact hj k (by omega) (by omega) h4
      have e1 : (i : Int) < p := by omega
      have e2 : ¬ p = 0 := by omega
      have m1 : 0 ≤ (i : Int) * x := Int.mul_nonneg (by omega) (by omega)
      have m2 : (i : Int) * x ≤ 31 * 31 := Int.mul_le_mul (by omega) (by omega) (by omega) (by omega)
      simp only [spec_l01Inverse.l0, spec_l01Inverse.b0, e1, e2, decide_true, if_true, if_false, seekN]
      rw [wrap64_id (x := x) (by omega) (by omega), wrap64_id (x := (i : Int) * x) (by omega) (by omega), Int.tmod_eq_emod_of_nonneg m1, nx (by omega)]
      by_cases hg : (i : Int) * x % p = 1
      · simp only [hg, beq_self_eq_true, if_true, decide_true]
        rw [wrap8_id (by omega) (by omega)]
      · simp only [hg, beq_iff_eq, if_false, decide_false, Bool.false_eq_true]
        exact ih (i + 1) q (by omega) (by omega) (by omega) (fun j h5 h6 => by
          by_cases ej : j = i
          · subst ej; exact hg
          · exact hj j h5 (by omega))
  exact main 30 1 6000 (by omega) (by omega) (by omega) (fun j h5 h6 => by omega)
def rw8 (g : Nat → Int) (k : Nat) : Nat → Int := fun z => g (k * 8 + z)
structure RedG (p : Int) (m : Nat) (g : Nat → Int) (l : Nat → Nat) : Prop where
  red : Red p 8 m (rw8 g) l
  ent : ∀ k, k < m → inP p (rw8 g k)
theorem zero_of {p x : Int} (h : p ∣ x) (h0 : 0 ≤ x) (h1 : x < p) : x = 0 := by
  obtain ⟨t, e⟩ := h
  have := Int.emod_eq_of_lt h0 h1
  rw [e, Int.mul_emod_right] at this
  omega
theorem RedG.first {p : Int} {m : Nat} {g : Nat → Int} {l : Nat → Nat} (hp : 1 < p) (h : RedG p m g l) {k : Nat} (hk : k < m) : first8 (rw8 g k) = l k := by
  have hl := h.red.inn k hk
  refine first8_is hl (fun e => ?_) (fun j hj => zero_of (h.red.low k j hk hj) (h.ent k hk j (by omega)).1 (h.ent k hk j (by omega)).2)
  have := h.red.one k hk
  exact not_dvd_one hp this (by rw [e]; exact Int.dvd_zero _)
theorem addV_in {p : Int} (hp : 0 < p) {v w : Nat → Int} {k : Int} : inP p (addV p v w k) := fun i hi => by
  unfold addV
  rw [if_pos hi]
  exact ⟨Int.emod_nonneg _ (by omega), Int.emod_lt_of_pos _ hp⟩
theorem addV_cg {p : Int} {v w : Nat → Int} {k : Int} : Cg p 8 (addV p v w k) fun i => v i + k * w i := by
  intro i hi
  unfold addV
  rw [if_pos hi]
  exact Cg.mod (p := p) (n := 8) (v := fun i => v i + k * w i) i hi
def byS (p : Int) (g v : Nat → Int) : Nat → Nat → Int
  | 0 => v
  | k + 1 => let u := byS p g v k; if u (first8 (rw8 g k)) = 0 then u else addV p u (rw8 g k) (- u (first8 (rw8 g k)))
theorem byS_in {p : Int} (hp : 0 < p) {g v : Nat → Int} (hv : inP p v) : ∀ {k : Nat}, inP p (byS p g v k)
  | 0 => hv
  | k + 1 => by
    simp only [byS]
    split
    · exact byS_in hp hv
    · exact addV_in hp
theorem spec_by (K : (Nat → Int) → Option ρ) {p : Int} {m c : Nat} {g v : Nat → Int} {l : Nat → Nat} (hp : 1 < p) (hp' : p ≤ 255) (h : RedG p m g l) (hv : inP p v) (hm : m ≤ 1000) : spec_l01By_su_v2 6000 K p v m c g = K (byS p g v m) := by
  unfold spec_l01By_su_v2 spec_l01By_su_v2.s
  refine loop_at (n := m) (fun k => byS p g v k) rfl (fun q k hk => ?_) (fun q => ?_) (by omega)
  · simp only [spec_l01By_su_v2.l0, spec_l01By_su_v2.b0, spec_first]
    have h1 : (k : Int) < (m : Int) := by omega
    have h2 : (0 : Int) ≤ k ∧ (k : Int) < (m : Int) := by omega
    have hf := h.first hp hk
    have hl := h.red.inn k hk
    have h3 : (0 : Int) ≤ ((first8 (rw8 g k) : Nat) : Int) ∧ ((first8 (rw8 g k) : Nat) : Int) < 8 := by omega
    have hu := byS_in (p := p) (by omega) (g := g) hv (k := k)
    have hu' := hu (first8 (rw8 g k)) (by omega)
    have er : (fun z => g (k * 8 + z)) = rw8 g k := rfl
    simp only [h1, h2, decide_true, if_true, and_self, Int.toNat_natCast, Nat.zero_add, Nat.mul_one, nx (show k < 100000 by omega), er, h3, byS]
    by_cases e : byS p g v k (first8 (rw8 g k)) = 0
    · simp [e]
    · have e' : (byS p g v k (first8 (rw8 g k)) != 0) = true := by simpa using e
      simp only [e', e, if_true, if_false]
      have hb : ∀ i, i < 8 → 0 ≤ rw8 g k i ∧ rw8 g k i ≤ 255 := fun i hi => by have := h.ent k hk i hi; omega
      rw [wrap64_id (x := byS p g v k (first8 (rw8 g k))) (by omega) (by omega), wrap64_id (by omega) (by omega), spec_add _ (by omega) hp' (fun i hi => by have := hu i hi; omega) hb (by omega) (by omega)]
      rw [Int.zero_sub]
  · simp only [spec_l01By_su_v2.l0, spec_l01By_su_v2.b0, Int.lt_irrefl, decide_false, Bool.false_eq_true, if_false, spec_l01By_su_v2.a0_0]
theorem byS_ok {p : Int} {m : Nat} {g v : Nat → Int} {l : Nat → Nat} (hp : 1 < p) (h : RedG p m g l) (hv : inP p v) : ∀ k, k ≤ m → (∃ s, Sp p 8 (Rw m (rw8 g)) s ∧ Cg p 8 (byS p g v k) (fun i => v i + s i)) ∧ ∀ j, j < k → p ∣ byS p g v k (l j)
  | 0, _ => ⟨⟨fun _ => 0, .zero .refl, Cg.of_eq fun i _ => by simp [byS]⟩, fun j hj => by omega⟩
  | k + 1, hk => by
    obtain ⟨⟨s, h1, h2⟩, h3⟩ := byS_ok hp h hv k (by omega)
    have hf := h.first hp (show k < m by omega)
    simp only [byS]
    rw [hf]
    by_cases e : byS p g v k (l k) = 0
    · rw [if_pos e]
      refine ⟨⟨s, h1, h2⟩, fun j hj => ?_⟩
      by_cases ej : j = k
      · subst ej; rw [e]; exact Int.dvd_zero _
      · exact h3 j (by omega)
    · rw [if_neg e]
      refine ⟨⟨_, h1.add (- byS p g v k (l k)) ⟨k, by omega, rfl⟩ Cg.refl, ?_⟩, fun j hj => ?_⟩
      · refine addV_cg.trans ((h2.add (Cg.refl (v := fun i => - byS p g v k (l k) * rw8 g k i))).trans (Cg.of_eq fun i _ => by omega))
      · have hl := h.red.inn j (by omega)
        have c := addV_cg (p := p) (v := byS p g v k) (w := rw8 g k) (k := - byS p g v k (l k)) (l j) hl
        by_cases ej : j = k
        · subst ej
          have h4 := Int.dvd_mul_of_dvd_right (b := - byS p g v j (l j)) (h.red.one j (by omega))
          have := Int.dvd_add c h4
          refine dvd_of_eq this ?_
          simp only [Int.mul_sub, Int.mul_one]; omega
        · have h4 := Int.dvd_mul_of_dvd_right (b := - byS p g v k (l k)) (h.red.oth j k (by omega) (by omega) ej)
          have := Int.dvd_add c (Int.dvd_add (h3 j (by omega)) h4)
          exact dvd_of_eq this (by simp only; omega)
end
end Go.Proofs.Ytmjpfchbkolcbaa.H
namespace Go.Proofs.Ytmjpfchbkolcbaa.H
open Go Go.RowKit Go.Proofs.Ytmjpfchbkolcbaa.Hy
set_option linter.unusedVariables false
set_option linter.unusedSimpArgs false
set_option maxRecDepth 100000
section
variable {ρ : Type} {p : Int} {m : Nat} {g : Nat → Int} {l : Nat → Nat}
theorem Red.le_lead {n : Nat} {R : Nat → Nat → Int} (h : Red p n m R l) : ∀ k, k < m → k ≤ l k
  | 0, _ => Nat.zero_le _
  | k + 1, hk => by
    have h1 := h.le_lead k (by omega)
    have h2 := h.up k (k + 1) (by omega) hk
    omega
theorem Red.many {n : Nat} {R : Nat → Nat → Int} (h : Red p n m R l) : m ≤ n := by
  cases m with
  | zero => omega
  | succ m =>
    have h1 := h.le_lead m (by omega)
    have h2 := h.inn m (by omega)
    omega
theorem rw8_lt {o k z : Nat} {g f : Nat → Int} (h : k < o) (hz : z < 8) : rw8 (joinN (o * 8) g f) k z = rw8 g k z := by
  unfold rw8 joinN; rw [if_pos (by omega)]
theorem rw8_eq {o z : Nat} {g f : Nat → Int} : rw8 (joinN (o * 8) g f) o z = f z := by
  unfold rw8 joinN; rw [if_neg (by omega)]; congr 1; omega
def lesP (p : Int) (g w : Nat → Int) (a k : Nat) : Nat → Int := addV p (rw8 g k) w (- rw8 g k a)
def insS (p : Int) (g w : Nat → Int) (a : Nat) : Nat → Nat × Bool × (Nat → Int)
  | 0 => (0, false, fun _ => 0)
  | i + 1 => let s := insS p g w a i
    if (!s.2.1 && decide (a < first8 (rw8 g i))) = true then (s.1 + 1 + 1, true, joinN ((s.1 + 1) * 8) (joinN (s.1 * 8) s.2.2 w) (lesP p g w a i))
    else (s.1 + 1, s.2.1, joinN (s.1 * 8) s.2.2 (lesP p g w a i))
def putE (p : Int) (g w : Nat → Int) (a t k : Nat) : Nat → Int := if k = t then w else lesP p g w a (ixT t k)
theorem insS_le {w : Nat → Int} {a : Nat} : ∀ {i : Nat}, (insS p g w a i).1 ≤ 2 * i
  | 0 => by simp [insS]
  | i + 1 => by
    have := insS_le (w := w) (a := a) (i := i)
    simp only [insS]
    split
    · simp only; omega
    · simp only; omega
theorem insS_ok (hp : 1 < p) (h : RedG p m g l) {w : Nat → Int} {a : Nat} (ha : a < 8) (w1 : p ∣ w a - 1) (wl : ∀ k, k < m → p ∣ w (l k)) : ∀ i, i ≤ m →
    ((insS p g w a i).2.1 = false → (insS p g w a i).1 = i ∧ (∀ j, j < i → l j < a) ∧ ∀ k z, k < i → z < 8 → rw8 (insS p g w a i).2.2 k z = lesP p g w a k z) ∧
    ((insS p g w a i).2.1 = true → (insS p g w a i).1 = i + 1 ∧ ∃ t, t < i ∧ (∀ j, j < t → l j < a) ∧ a < l t ∧ ∀ k z, k < i + 1 → z < 8 → rw8 (insS p g w a i).2.2 k z = putE p g w a t k z)
  | 0, _ => ⟨fun _ => ⟨rfl, fun j hj => by omega, fun k z hk => by omega⟩, fun h => by simp [insS] at h⟩
  | i + 1, hi => by
    obtain ⟨i1, i2⟩ := insS_ok hp h ha w1 wl i (by omega)
    have hf := h.first hp (show i < m by omega)
    have hne : l i ≠ a := fun e => not_dvd_one hp w1 (e ▸ wl i (by omega))
    simp only [insS]
    by_cases hpl : (insS p g w a i).2.1 = true
    · obtain ⟨e1, t, ht, h3, h4, h5⟩ := i2 hpl
      have hc : ¬ ((!(insS p g w a i).2.1 && decide (a < first8 (rw8 g i))) = true) := by simp [hpl]
      rw [if_neg hc]
      refine ⟨fun e => (by rw [hpl] at e; cases e), fun _ => ⟨by simp only; omega, t, by omega, h3, h4, fun k z hk hz => ?_⟩⟩
      simp only
      by_cases e : k = i + 1
      · subst e
        rw [e1, rw8_eq]
        unfold putE ixT
        rw [if_neg (by omega), if_neg (by omega)]; rfl
      · rw [rw8_lt (by omega) hz]; exact h5 k z (by omega) hz
    · have hpl' : (insS p g w a i).2.1 = false := by simpa using hpl
      obtain ⟨e1, h3, h5⟩ := i1 hpl'
      by_cases hgt : a < l i
      · have hc : (!(insS p g w a i).2.1 && decide (a < first8 (rw8 g i))) = true := by simp [hpl', hf, hgt]
        rw [if_pos hc]
        refine ⟨fun e => by simp at e, fun _ => ⟨by simp only; omega, i, by omega, h3, hgt, fun k z hk hz => ?_⟩⟩
        simp only
        unfold putE ixT
        rw [e1]
        by_cases e : k = i + 1
        · subst e
          rw [rw8_eq, if_neg (by omega), if_neg (by omega)]; rfl
        · rw [rw8_lt (by omega) hz]
          by_cases e' : k = i
          · subst e'; rw [rw8_eq, if_pos rfl]
          · rw [rw8_lt (by omega) hz, if_neg e', if_pos (by omega)]; exact h5 k z (by omega) hz
      · have hc : ¬ ((!(insS p g w a i).2.1 && decide (a < first8 (rw8 g i))) = true) := by simp [hpl', hf, hgt]
        rw [if_neg hc]
        refine ⟨fun _ => ⟨by simp only; omega, fun j hj => ?_, fun k z hk hz => ?_⟩, fun e => (by rw [hpl'] at e; cases e)⟩
        · by_cases e : j = i
          · subst e; omega
          · exact h3 j (by omega)
        · simp only
          by_cases e : k = i
          · subst e; rw [e1, rw8_eq]
          · rw [rw8_lt (by omega) hz]; exact h5 k z (by omega) hz
def putW (p : Int) (u : Nat → Int) : Nat → Int := addV p (fun _ => 0) u (invN p (u (first8 u)))
def putM (p : Int) (m : Nat) (g v : Nat → Int) : Nat × (Nat → Int) :=
  let u := byS p g v m
  if eqN 8 u (fun _ => 0) = true then (m, g)
  else
    let s := insS p g (putW p u) (first8 u) m
    if s.2.1 = true then (s.1, s.2.2) else (s.1 + 1, joinN (s.1 * 8) s.2.2 (putW p u))
theorem first8_nz {u : Nat → Int} (h : ¬ eqN 8 u (fun _ => 0) = true) : first8 u < 8 := by
  apply Classical.byContradiction
  intro hn
  apply h
  unfold eqN
  rw [decide_eq_true_eq]
  intro j hj
  exact first8_low (v := u) (i := j) (by omega)
theorem spec_put (hp : isP p = true) (h : RedG p m g l) {v : Nat → Int} (hv : inP p v) (X : Nat → (Nat → Int) → Option ρ) {c : Nat} : spec_l01Put_su_v2 6000 (fun r => X r g) X p m v c (fun z => g (0 + z)) = X (putM p m g v).1 (putM p m g v).2 := by
  have hr := isP_range hp
  have hm := h.red.many
  have eg : (fun z => g (0 + z)) = g := by funext z; rw [Nat.zero_add]
  rw [eg]
  unfold spec_l01Put_su_v2 spec_l01Put_su_v2.s
  rw [show (fun z => g (0 + z)) = g from eg]
  rw [spec_by _ (by omega) (by omega) h hv (by omega)]
  have hu := byS_in (p := p) (by omega) (g := g) hv (k := m)
  unfold putM
  simp only [spec_l01Zero]
  by_cases e : eqN 8 (byS p g v m) (fun _ => 0) = true
  · simp only [e, if_true]
  · have hf := first8_nz e
    have hnz := first8_at hf
    have hub := hu _ hf
    have h3 : (0 : Int) ≤ ((first8 (byS p g v m) : Nat) : Int) ∧ ((first8 (byS p g v m) : Nat) : Int) < 8 := by omega
    simp only [e, if_false, spec_first, h3, and_self, if_true, Int.toNat_natCast, Nat.mul_one, Bool.false_eq_true]
    obtain ⟨v1, v2, v3⟩ := invN_ok hp (x := byS p g v m (first8 (byS p g v m))) (by omega) (by omega)
    rw [spec_inverse _ hp (by omega) (by omega)]
    rw [wrap64_id (by omega) (by omega), spec_add _ (by omega) (by omega) (fun i _ => by omega) (fun i hi => by have := hu i hi; omega) (by omega) (by omega)]
    have hw : inP p (putW p (byS p g v m)) := addV_in (by omega)
    have main := loop_st (l := fun N (i : Nat) (s : Nat × Bool × (Nat → Int)) => spec_l01Put_su_v2.l0 6000 (fun r => X r g) X p m g ((first8 (byS p g v m) : Nat) : Int) (putW p (byS p g v m)) (fun ov18 ov19 ov20 => spec_l01Put_su_v2.a0_0 6000 (fun r => X r g) X (putW p (byS p g v m)) ov18 ov19 ov20) N s.1 s.2.1 (i : Int) s.2.2) (n := m)
      (out := if (insS p g (putW p (byS p g v m)) (first8 (byS p g v m)) m).2.1 = true then X (insS p g (putW p (byS p g v m)) (first8 (byS p g v m)) m).1 (insS p g (putW p (byS p g v m)) (first8 (byS p g v m)) m).2.2 else X ((insS p g (putW p (byS p g v m)) (first8 (byS p g v m)) m).1 + 1) (joinN ((insS p g (putW p (byS p g v m)) (first8 (byS p g v m)) m).1 * 8) (insS p g (putW p (byS p g v m)) (first8 (byS p g v m)) m).2.2 (putW p (byS p g v m))))
      (insS p g (putW p (byS p g v m)) (first8 (byS p g v m))) (fun q i hi => ?_) (fun q => ?_) m 0 6000 (by omega) (by omega)
    · refine Eq.trans main ?_
      split <;> rfl
    · have hle := insS_le (p := p) (g := g) (i := i) (w := putW p (byS p g v m)) (a := first8 (byS p g v m))
      generalize hs : insS p g (putW p (byS p g v m)) (first8 (byS p g v m)) i = s at hle
      obtain ⟨o, pl, gg⟩ := s
      simp only at hle
      simp only [insS, hs, spec_l01Put_su_v2.l0, spec_l01Put_su_v2.b0]
      have h1 : (i : Int) < (m : Int) := by omega
      have h2 : (0 : Int) ≤ i ∧ (i : Int) < (m : Int) := by omega
      have b1 : (o + 1) * 8 ≤ 140737488355328 := by omega
      have b2 : (o + 1 + 1) * 8 ≤ 140737488355328 := by omega
      have er : (fun z => g (i * 8 + z)) = rw8 g i := rfl
      have hri := h.ent i hi
      have hra := hri _ hf
      have ek : IntKind.i64.wrap (0 - IntKind.i64.wrap (g (i * 8 + first8 (byS p g v m)))) = - rw8 g i (first8 (byS p g v m)) := by
        show IntKind.i64.wrap (0 - IntKind.i64.wrap (rw8 g i (first8 (byS p g v m)))) = _
        rw [wrap64_id (x := rw8 g i (first8 (byS p g v m))) (by omega) (by omega), wrap64_id (by omega) (by omega)]; omega
      have ea : ∀ Y : (Nat → Int) → Option ρ, spec_l01Add 6000 Y p (rw8 g i) (putW p (byS p g v m)) (- rw8 g i (first8 (byS p g v m))) = Y (lesP p g (putW p (byS p g v m)) (first8 (byS p g v m)) i) := fun Y =>
        spec_add _ (by omega) (by omega) (fun j hj => by have := hri j hj; omega) (fun j hj => by have := hw j hj; omega) (by omega) (by omega)
      simp only [h1, h2, h3, b1, b2, decide_true, if_true, and_self, Int.toNat_natCast, Nat.zero_add, Nat.mul_one, nx (show i < 100000 by omega), er, ek, ea, spec_first]
      cases pl
      · by_cases hgt : first8 (byS p g v m) < first8 (rw8 g i)
        · have hgt' : ((first8 (rw8 g i) : Nat) : Int) > ((first8 (byS p g v m) : Nat) : Int) := by omega
          simp [hgt, hgt']
        · have hgt' : ¬ ((first8 (rw8 g i) : Nat) : Int) > ((first8 (byS p g v m) : Nat) : Int) := by omega
          simp only [hgt, hgt', Bool.not_false, if_true, decide_false, Bool.false_eq_true, if_false, Bool.and_false]
      · simp
    · have hle := insS_le (p := p) (g := g) (i := m) (w := putW p (byS p g v m)) (a := first8 (byS p g v m))
      have b1 : ((insS p g (putW p (byS p g v m)) (first8 (byS p g v m)) m).1 + 1) * 8 ≤ 140737488355328 := by omega
      simp only [spec_l01Put_su_v2.l0, spec_l01Put_su_v2.b0, Int.lt_irrefl, decide_false, Bool.false_eq_true, if_false, spec_l01Put_su_v2.a0_0, b1, if_true]
      cases (insS p g (putW p (byS p g v m)) (first8 (byS p g v m)) m).2.1 <;> simp
theorem putM_ok (hp : isP p = true) (h : RedG p m g l) {v : Nat → Int} (hv : inP p v) : ∃ l', RedG p (putM p m g v).1 (putM p m g v).2 l' ∧ Sub p 8 (Rw (putM p m g v).1 (rw8 (putM p m g v).2)) (Un (Rw m (rw8 g)) v) ∧ Sub p 8 (Un (Rw m (rw8 g)) v) (Rw (putM p m g v).1 (rw8 (putM p m g v).2)) := by
  have hr := isP_range hp
  have hu := byS_in (p := p) (by omega) (g := g) hv (k := m)
  obtain ⟨⟨s, s1, s2⟩, s3⟩ := byS_ok (by omega) h hv m (Nat.le_refl m)
  generalize hU : byS p g v m = u at hu s2 s3
  unfold putM
  simp only [hU]
  have vs : Cg p 8 v fun i => u i + (-1) * s i := fun i hi => by
    obtain ⟨t, e⟩ := s2 i hi
    exact ⟨-t, by rw [Int.mul_neg, ← e]; simp only; omega⟩
  by_cases e : eqN 8 u (fun _ => 0) = true
  · simp only [e, if_true]
    refine ⟨l, h, Sub.left, Sub.un Sub.refl ((s1.times (-1)).cg (vs.trans (Cg.of_eq fun i hi => ?_)))⟩
    unfold eqN at e
    rw [decide_eq_true_eq] at e
    have := e i hi
    simp only at this
    rw [this]; omega
  · have hf := first8_nz e
    have hnz := first8_at hf
    have hub := hu _ hf
    obtain ⟨v1, v2, v3⟩ := invN_ok hp (x := u (first8 u)) (by omega) (by omega)
    have hw : inP p (putW p u) := addV_in (by omega)
    have wc : Cg p 8 (putW p u) fun i => (invN p (u (first8 u)) : Int) * u i := (addV_cg (p := p)).trans (Cg.of_eq fun i _ => by omega)
    have wz : ∀ i, i < 8 → p ∣ u i → p ∣ putW p u i := fun i hi hz => by
      have := Int.dvd_add (wc i hi) (Int.dvd_mul_of_dvd_right (b := (invN p (u (first8 u)) : Int)) hz)
      exact dvd_of_eq this (by simp only; omega)
    have w1 : p ∣ putW p u (first8 u) - 1 := by
      have := Int.dvd_add (wc _ hf) v3
      exact dvd_of_eq this (by simp only; omega)
    have wl : ∀ k, k < m → p ∣ putW p u (l k) := fun k hk => wz _ (h.red.inn k hk) (s3 k hk)
    have wlow : ∀ i, i < first8 u → p ∣ putW p u i := fun i hi => wz i (by omega) (by rw [first8_low hi]; exact Int.dvd_zero _)
    obtain ⟨i1, i2⟩ := insS_ok (by omega) h hf w1 wl m (Nat.le_refl m)
    have fin : ∃ (t : Nat) (gf : Nat → Int), Ins p 8 m (rw8 g) l (putW p u) (first8 u) t ∧ (if (insS p g (putW p u) (first8 u) m).2.1 = true then ((insS p g (putW p u) (first8 u) m).1, (insS p g (putW p u) (first8 u) m).2.2) else ((insS p g (putW p u) (first8 u) m).1 + 1, joinN ((insS p g (putW p u) (first8 u) m).1 * 8) (insS p g (putW p u) (first8 u) m).2.2 (putW p u))) = (m + 1, gf) ∧
        ∀ k z, k < m + 1 → z < 8 → rw8 gf k z = putE p g (putW p u) (first8 u) t k z := by
      by_cases hpl : (insS p g (putW p u) (first8 u) m).2.1 = true
      · obtain ⟨e1, t, ht, h3, h4, h5⟩ := i2 hpl
        refine ⟨t, _, ⟨h.red, hf, w1, wlow, wl, by omega, h3, fun j h6 h7 => ?_⟩, by rw [if_pos hpl, e1], h5⟩
        have := h.red.le h6 h7
        omega
      · have hpl' : (insS p g (putW p u) (first8 u) m).2.1 = false := by simpa using hpl
        obtain ⟨e1, h3, h5⟩ := i1 hpl'
        refine ⟨m, _, ⟨h.red, hf, w1, wlow, wl, Nat.le_refl m, h3, fun j h6 h7 => by omega⟩, by rw [if_neg hpl, e1], fun k z hk hz => ?_⟩
        unfold putE ixT
        by_cases e : k = m
        · subst e; rw [rw8_eq, if_pos rfl]
        · rw [rw8_lt (by omega) hz, if_neg e, if_pos (by omega)]; exact h5 k z (by omega) hz
    obtain ⟨t, gf, I, eq, rows⟩ := fin
    simp only [e, if_false, Bool.false_eq_true]
    rw [eq]
    have cg : ∀ k, k < m + 1 → Cg p 8 (rw8 gf k) (putR (rw8 g) (putW p u) (first8 u) t k) := fun k hk => by
      refine (Cg.of_eq fun i hi => rows k i hk hi).trans ?_
      unfold putE putR
      split
      · exact Cg.refl
      · unfold lesP lessW
        exact addV_cg.trans (Cg.of_eq fun i _ => by simp only [Int.neg_mul]; omega)
    have sA : Sub p 8 (Rw (m + 1) (rw8 gf)) (Rw (m + 1) (putR (rw8 g) (putW p u) (first8 u) t)) := by
      rintro r ⟨k, hk, rfl⟩; exact (Sp.of ⟨k, hk, rfl⟩).cg (cg k hk)
    have sB : Sub p 8 (Rw (m + 1) (putR (rw8 g) (putW p u) (first8 u) t)) (Rw (m + 1) (rw8 gf)) := by
      rintro r ⟨k, hk, rfl⟩; exact (Sp.of ⟨k, hk, rfl⟩).cg (cg k hk).symm
    refine ⟨_, ⟨I.put.cg cg, fun k hk i hi => ?_⟩, (sA.trans I.sub1).trans ?_, Sub.trans ?_ (I.sub2.trans sB)⟩
    · rw [rows k i hk hi]
      unfold putE
      split
      · exact hw i hi
      · exact addV_in (by omega) i hi
    ·
      refine Sub.un Sub.left ?_
      have uu : Sp p 8 (Un (Rw m (rw8 g)) v) u := ((Sp.of (r := v) (.inr rfl)).plus (s1.mono Sub.left)).cg s2
      exact (uu.times _).cg wc
    · refine Sub.un Sub.left ?_
      have ww : Sp p 8 (Un (Rw m (rw8 g)) (putW p u)) u := by
        refine (Sp.times (u (first8 u)) (Sp.of (r := putW p u) (.inr rfl))).cg ?_
        refine Cg.symm ((wc.mul (u (first8 u))).trans fun i hi => ?_)
        have := Int.dvd_mul_of_dvd_left (c := u i) v3
        refine dvd_of_eq this ?_
        simp only [Int.sub_mul, Int.one_mul]
        rw [Int.mul_comm (invN p (u (first8 u)) : Int) (u (first8 u)), Int.mul_assoc]
      exact (ww.plus ((s1.mono Sub.left).times (-1))).cg vs
def redV (p : Int) (V : Nat → Nat → Int) : Nat → Nat × (Nat → Int)
  | 0 => (0, fun _ => 0)
  | i + 1 => putM p (redV p V i).1 (redV p V i).2 (V i)
theorem redV_ok (hp : isP p = true) {V : Nat → Nat → Int} {N : Nat} (hV : ∀ i, i < N → inP p (V i)) : ∀ i, i ≤ N → ∃ l, RedG p (redV p V i).1 (redV p V i).2 l ∧ Sub p 8 (Rw (redV p V i).1 (rw8 (redV p V i).2)) (Rw i V) ∧ Sub p 8 (Rw i V) (Rw (redV p V i).1 (rw8 (redV p V i).2))
  | 0, _ => ⟨fun _ => 0, ⟨⟨fun k h => by simp [redV] at h, fun j k _ h => by simp [redV] at h, fun k h => by simp [redV] at h, fun j k h => by simp [redV] at h, fun k i h => by simp [redV] at h⟩, fun k h => by simp [redV] at h⟩, (by rintro r ⟨k, hk, _⟩; simp [redV] at hk), (by rintro r ⟨k, hk, _⟩; omega)⟩
  | i + 1, hi => by
    obtain ⟨l, h1, h2, h3⟩ := redV_ok hp hV i (by omega)
    obtain ⟨l', g1, g2, g3⟩ := putM_ok hp h1 (hV i (by omega))
    refine ⟨l', g1, g2.trans (Sub.un (h2.trans ?_) (.of ⟨i, by omega, rfl⟩)), Sub.trans ?_ g3⟩
    · rintro r ⟨k, hk, rfl⟩; exact .of ⟨k, by omega, rfl⟩
    · rintro r ⟨k, hk, rfl⟩
      by_cases e : k = i
      · subst e; exact .of (.inr rfl)
      · exact (h3 _ ⟨k, by omega, rfl⟩).mono Sub.left
def redM (p : Int) (L : Nat → Int) (i : Nat) : Nat × (Nat → Int) := redV p (rw8 L) i
theorem redM_ok (hp : isP p = true) {L : Nat → Int} {N : Nat} (hL : ∀ i, i < N → inP p (rw8 L i)) : ∀ i, i ≤ N → ∃ l, RedG p (redM p L i).1 (redM p L i).2 l ∧ Sub p 8 (Rw (redM p L i).1 (rw8 (redM p L i).2)) (Rw i (rw8 L)) ∧ Sub p 8 (Rw i (rw8 L)) (Rw (redM p L i).1 (rw8 (redM p L i).2)) :=
  redV_ok hp hL
end
end Go.Proofs.Ytmjpfchbkolcbaa.H
namespace Go.Proofs.Ytmjpfchbkolcbaa.H
open Go Go.RowKit Go.Proofs.Ytmjpfchbkolcbaa.Hy
set_option linter.unusedVariables false
set_option linter.unusedSimpArgs false
set_option maxRecDepth 100000
section
variable {ρ : Type} {p : Int} {N W : Nat} {of ln : Nat → Nat} {pool : Nat → Int}
theorem impl_inverse (K : Int → Option ρ) {f : Nat → Int} {x : Int} (hp : isP (f 0) = true) (h0 : 0 < x) (h1 : x < f 0) : impl_field_inverse 6000 K f x = K (invN (f 0) x : Int) := by
  have hr := isP_range hp
  obtain ⟨k, h2, h3, h4⟩ := inv_ex hp h0 h1
  unfold impl_field_inverse impl_field_inverse.s
  have main : ∀ (n i q : Nat), i + n = 31 → n < q → 1 ≤ i → (∀ j, 1 ≤ j → j < i → ¬ (j : Int) * x % f 0 = 1) → impl_field_inverse.l0 6000 K f x (impl_field_inverse.a0_0 6000 K f) q (i : Int) = K (seekN (fun k => decide ((k : Int) * x % f 0 = 1)) i n : Int) := by
    intro n
    induction n with
    | zero =>
      intro i q e _ _ hj
      exact absurd h4 (hj k (by omega) (by omega))
    | succ n ih =>
      intro i q e hq hi hj
      obtain ⟨q, rfl⟩ : ∃ k, q = k + 1 := ⟨q - 1, by omega⟩
      have hik : i ≤ k := by
        apply Classical.byContradiction; intro hn
        exact hj k (by omega) (by omega) h4
      have e1 : (i : Int) < f 0 := by omega
      have e2 : ¬ f 0 = 0 := by omega
      have m1 : 0 ≤ (i : Int) * x := Int.mul_nonneg (by omega) (by omega)
      have m2 : (i : Int) * x ≤ 31 * 31 := Int.mul_le_mul (by omega) (by omega) (by omega) (by omega)
      simp only [impl_field_inverse.l0, impl_field_inverse.b0, e1, e2, decide_true, if_true, if_false, seekN]
      rw [wrap64_id (x := x) (by omega) (by omega), wrap64_id (x := (i : Int) * x) (by omega) (by omega), Int.tmod_eq_emod_of_nonneg m1, nx (by omega)]
      by_cases hg : (i : Int) * x % f 0 = 1
      · simp only [hg, beq_self_eq_true, if_true, decide_true]
      · simp only [hg, beq_iff_eq, if_false, decide_false, Bool.false_eq_true]
        exact ih (i + 1) q (by omega) (by omega) (by omega) (fun j h5 h6 => by
          by_cases ej : j = i
          · subst ej; exact hg
          · exact hj j h5 (by omega))
  exact main 30 1 6000 (by omega) (by omega) (by omega) (fun j h5 h6 => by omega)
theorem nx' {i : Nat} (h : i < 100000000) : IntKind.i64.wrap ((i : Int) + 1) = ((i + 1 : Nat) : Int) := by
  rw [wrap64_id (by omega) (by omega)]; omega
structure Tbl (p : Int) (N W : Nat) (of ln : Nat → Nat) (pool : Nat → Int) : Prop where
  len : ∀ k, k < N → ln k = W
  dis : ∀ j k, j < N → k < N → j ≠ k → ∀ y z, y < W → z < W → of j + y ≠ of k + z
  ent : ∀ k z, k < N → z < W → 0 ≤ pool (of k + z) ∧ pool (of k + z) < p
def rowO (of : Nat → Nat) (pool : Nat → Int) (k : Nat) : Nat → Int := fun z => pool (of k + z)
def sclP (p b : Int) (o n : Nat) (pool : Nat → Int) : Nat → Int := fun y => if o ≤ y ∧ y < o + n then b * pool y % p else pool y
def subP (p b : Int) (o o' n : Nat) (pool : Nat → Int) : Nat → Int := fun y => if o ≤ y ∧ y < o + n then (pool y - b * pool (o' + (y - o))) % p else pool y
theorem sclP_next {b : Int} {o n : Nat} : upd (sclP p b o n pool) (o + n) (b * sclP p b o n pool (o + n) % p) = sclP p b o (n + 1) pool := by
  funext y
  unfold upd sclP
  by_cases h : y = o + n
  · subst h
    rw [if_pos rfl, if_neg (by omega), if_pos (by omega)]
  · rw [if_neg h]
    by_cases h2 : o ≤ y ∧ y < o + n
    · rw [if_pos h2, if_pos (by omega)]
    · rw [if_neg h2, if_neg (by omega)]
theorem subP_next {b : Int} {o o' n : Nat} (h : ∀ y, y ≤ n → ∀ z, z ≤ n → o + y ≠ o' + z) : upd (subP p b o o' n pool) (o + n) ((subP p b o o' n pool (o + n) - b * subP p b o o' n pool (o' + n)) % p) = subP p b o o' (n + 1) pool := by
  funext y
  have h1 : subP p b o o' n pool (o' + n) = pool (o' + n) := by
    unfold subP
    rw [if_neg]
    rintro ⟨g1, g2⟩
    exact h (o' + n - o) (by omega) n (by omega) (by omega)
  have h3 : subP p b o o' n pool (o + n) = pool (o + n) := by
    unfold subP; rw [if_neg (by omega)]
  rw [h1, h3]
  unfold upd subP
  by_cases hy : y = o + n
  · subst hy
    rw [if_pos rfl, if_pos (by omega)]
    congr 5; omega
  · rw [if_neg hy]
    by_cases h2 : o ≤ y ∧ y < o + n
    · rw [if_pos h2, if_pos (by omega)]
    · rw [if_neg h2, if_neg (by omega)]
def clrP (p : Int) (W a c : Nat) (of : Nat → Nat) (pool : Nat → Int) : Nat → Nat → Int
  | 0 => pool
  | k + 1 => let q := clrP p W a c of pool k
    if k = a ∨ q (of k + c) = 0 then q else subP p (q (of k + c)) (of k) (of a) W q
theorem subP_off {b : Int} {o o' n y : Nat} (h : ∀ z, z < n → y ≠ o + z) : subP p b o o' n pool y = pool y := by
  unfold subP
  rw [if_neg]
  rintro ⟨g1, g2⟩
  exact h (y - o) (by omega) (by omega)
theorem clr_row (t : Tbl p N W of ln pool) {a c : Nat} (ha : a < N) : ∀ k, k ≤ N → (∀ j z, j < N → z < W → (k ≤ j ∨ j = a) → clrP p W a c of pool k (of j + z) = pool (of j + z))
  | 0, _ => fun j z _ _ _ => rfl
  | k + 1, hk => fun j z hj hz hc => by
    have ih := clr_row t (c := c) ha k (by omega) j z hj hz (by omega)
    simp only [clrP]
    split
    · exact ih
    · rw [subP_off]
      · exact ih
      · intro y hy
        exact t.dis j k hj (by omega) (by omega) z y hz hy
theorem clr_got (hp : 0 < p) (t : Tbl p N W of ln pool) {a c : Nat} (ha : a < N) (hc : c < W) : ∀ k, k ≤ N → ∀ j z, j < k → j ≠ a → z < W →
    (p ∣ clrP p W a c of pool k (of j + z) - (pool (of j + z) - pool (of j + c) * pool (of a + z))) ∧ 0 ≤ clrP p W a c of pool k (of j + z) ∧ clrP p W a c of pool k (of j + z) < p
  | 0, _ => fun j z h => by omega
  | k + 1, hk => fun j z hj hne hz => by
    by_cases e : j = k
    · subst e
      have r1 := clr_row t (c := c) ha j (by omega) j z (by omega) hz (.inl (Nat.le_refl _))
      have r2 := clr_row t (c := c) ha j (by omega) j c (by omega) hc (.inl (Nat.le_refl _))
      have r3 := clr_row t (c := c) ha j (by omega) a z ha hz (.inr rfl)
      have he := t.ent j z (by omega) hz
      simp only [clrP]
      by_cases h0 : clrP p W a c of pool j (of j + c) = 0
      · rw [if_pos (.inr h0), r1]
        rw [r2] at h0
        rw [h0, Int.zero_mul, Int.sub_zero, Int.sub_self]
        exact ⟨Int.dvd_zero _, he⟩
      · rw [if_neg (by rintro (h | h); exact hne h; exact h0 h)]
        have hs : subP p (clrP p W a c of pool j (of j + c)) (of j) (of a) W (clrP p W a c of pool j) (of j + z) = (pool (of j + z) - pool (of j + c) * pool (of a + z)) % p := by
          unfold subP
          rw [if_pos (by omega), r1, r2, show of j + z - of j = z by omega, r3]
        rw [hs]
        exact ⟨Cg.mod (p := p) (n := 1) (v := fun _ => pool (of j + z) - pool (of j + c) * pool (of a + z)) 0 (by omega), Int.emod_nonneg _ (by omega), Int.emod_lt_of_pos _ hp⟩
    · have ih := clr_got hp t ha hc k (by omega) j z (by omega) hne hz
      simp only [clrP]
      split
      · exact ih
      · rw [subP_off]
        · exact ih
        · intro y hy
          exact t.dis j k (by omega) (by omega) e z y hz hy
theorem impl_clear (hp : isP p = true) (t : Tbl p N W of ln pool) (K : (Nat → Int) → (Nat → Int) → Option ρ) {f pl mn : Nat → Int} {a c d1 d2 d3 : Nat} (hf : f 0 = p) (ha : a < N) (hc : c < W) (hN : N ≤ 1000) (hW : W ≤ 100) (hnz : pool (of a + c) ≠ 0) :
    impl_system_clear_v2 6000 K (a : Int) (c : Int) f mn N d1 d2 d3 of ln pl pool = K pl (clrP p W a c of (sclP p (invN p (pool (of a + c)) : Int) (of a) W pool) N) := by
  have hr := isP_range hp
  have hac := t.ent a c ha hc
  have iv := invN_ok hp (x := pool (of a + c)) (by omega) (by omega)
  have g1 : (0 : Int) ≤ (a : Int) ∧ (a : Int) < (N : Int) := by omega
  have g2 : (0 : Int) ≤ (c : Int) ∧ (c : Int) < (W : Int) := by omega
  unfold impl_system_clear_v2 impl_system_clear_v2.s
  simp only [g1, g2, t.len a ha, and_self, if_true, Int.toNat_natCast, Nat.zero_add, Nat.mul_one]
  rw [impl_inverse _ (by rw [hf]; exact hp) (by omega) (by rw [hf]; omega), hf]
  refine loop_at (n := W) (fun i => sclP p (invN p (pool (of a + c)) : Int) (of a) i pool) (by funext y; unfold sclP; rw [if_neg (by omega)]) (fun q i hi => ?_) (fun q => ?_) (by omega)
  · simp only [impl_system_clear_v2.l0, impl_system_clear_v2.b0]
    have h1 : (i : Int) < (W : Int) := by omega
    have h2 : (0 : Int) ≤ i ∧ (i : Int) < (W : Int) := by omega
    have he := t.ent a i ha hi
    have hs : sclP p (invN p (pool (of a + c)) : Int) (of a) i pool (of a + i) = pool (of a + i) := by unfold sclP; rw [if_neg (by omega)]
    have m1 : 0 ≤ (invN p (pool (of a + c)) : Int) * pool (of a + i) := Int.mul_nonneg (by omega) (by omega)
    have m2 : (invN p (pool (of a + c)) : Int) * pool (of a + i) ≤ 31 * 31 := Int.mul_le_mul (by omega) (by omega) (by omega) (by omega)
    simp only [h1, h2, t.len a ha, decide_true, if_true, and_self, Int.toNat_natCast, Nat.zero_add, Nat.mul_one, nx (show i < 100000 by omega)]
    rw [impl_mod _ (by omega) (by omega), hf]
    rw [wrap64_id (x := sclP p (invN p (pool (of a + c)) : Int) (of a) i pool (of a + i)) (by omega) (by omega), wrap64_id (by rw [hs]; omega) (by rw [hs]; omega), sclP_next]
  · simp only [impl_system_clear_v2.l0, impl_system_clear_v2.b0, t.len a ha, Nat.zero_add, Nat.mul_one, Int.toNat_natCast, Int.lt_irrefl, decide_false, Bool.false_eq_true, if_false, impl_system_clear_v2.a0_0]
    have t1 : Tbl p N W of ln (sclP p (invN p (pool (of a + c)) : Int) (of a) W pool) := ⟨t.len, t.dis, fun k z hk hz => by
      unfold sclP
      split
      · exact ⟨Int.emod_nonneg _ (by omega), Int.emod_lt_of_pos _ (by omega)⟩
      · exact t.ent k z hk hz⟩
    generalize sclP p (invN p (pool (of a + c)) : Int) (of a) W pool = pool1 at t1
    refine loop_at (n := N) (fun k => clrP p W a c of pool1 k) rfl (fun q k hk => ?_) (fun q => ?_) (by omega)
    · simp only [impl_system_clear_v2.l1, impl_system_clear_v2.b1]
      have h1 : (k : Int) < (N : Int) := by omega
      have h2 : (0 : Int) ≤ k ∧ (k : Int) < (N : Int) := by omega
      simp only [h1, h2, g2, t.len k hk, decide_true, if_true, and_self, Int.toNat_natCast, Nat.zero_add, Nat.mul_one, nx' (show k < 100000000 by omega)]
      by_cases e : k = a
      · have e' : ((k : Int) == (a : Int)) = true := by simp [e]
        rw [if_pos e']
        have : clrP p W a c of pool1 (k + 1) = clrP p W a c of pool1 k := by simp only [clrP]; rw [if_pos (.inl e)]
        rw [this]
      · have e' : ¬ ((k : Int) == (a : Int)) = true := by simp only [beq_iff_eq]; omega
        rw [if_neg e']
        by_cases h0 : clrP p W a c of pool1 k (of k + c) = 0
        · have : clrP p W a c of pool1 (k + 1) = clrP p W a c of pool1 k := by simp only [clrP]; rw [if_pos (.inr h0)]
          rw [this]
          simp [h0]
        · have : clrP p W a c of pool1 (k + 1) = subP p (clrP p W a c of pool1 k (of k + c)) (of k) (of a) W (clrP p W a c of pool1 k) := by simp only [clrP]; rw [if_neg (by rintro (h | h); exact e h; exact h0 h)]
          rw [this]
          have h0' : ¬ (clrP p W a c of pool1 k (of k + c) == 0) = true := by simpa using h0
          rw [if_neg h0']
          have rk := fun z hz => clr_row t1 (c := c) ha k (by omega) k z hk hz (.inl (Nat.le_refl _))
          have ra := fun z hz => clr_row t1 (c := c) ha k (by omega) a z ha hz (.inr rfl)
          have bc := t1.ent k c hk hc
          refine loop_at (n := W) (fun i => subP p (clrP p W a c of pool1 k (of k + c)) (of k) (of a) i (clrP p W a c of pool1 k)) (by funext y; unfold subP; rw [if_neg (by omega)]) (fun q' i hi => ?_) (fun q' => ?_) (by omega)
          · simp only [impl_system_clear_v2.l2, impl_system_clear_v2.b2]
            have k1 : (i : Int) < (W : Int) := by omega
            have k2 : (0 : Int) ≤ i ∧ (i : Int) < (W : Int) := by omega
            have s1 : subP p (clrP p W a c of pool1 k (of k + c)) (of k) (of a) i (clrP p W a c of pool1 k) (of k + i) = pool1 (of k + i) := by
              unfold subP; rw [if_neg (by omega)]; exact rk i hi
            have s2 : subP p (clrP p W a c of pool1 k (of k + c)) (of k) (of a) i (clrP p W a c of pool1 k) (of a + i) = pool1 (of a + i) := by
              rw [subP_off]
              · exact ra i hi
              · intro y hy; exact t1.dis a k ha hk (by omega) i y hi (by omega)
            have s3 := rk c hc
            have b1 := t1.ent k i hk hi
            have b2 := t1.ent a i ha hi
            have m1 : 0 ≤ pool1 (of k + c) * pool1 (of a + i) := Int.mul_nonneg (by omega) (by omega)
            have m2 : pool1 (of k + c) * pool1 (of a + i) ≤ 31 * 31 := Int.mul_le_mul (by omega) (by omega) (by omega) (by omega)
            simp only [k1, k2, t.len a ha, t.len k hk, decide_true, if_true, and_self, Int.toNat_natCast, Nat.zero_add, Nat.mul_one, nx (show i < 100000 by omega)]
            rw [impl_mod _ (by omega) (by omega), hf]
            have ew : IntKind.i64.wrap (IntKind.i64.wrap (subP p (clrP p W a c of pool1 k (of k + c)) (of k) (of a) i (clrP p W a c of pool1 k) (of k + i)) - IntKind.i64.wrap (IntKind.i64.wrap (clrP p W a c of pool1 k (of k + c)) * IntKind.i64.wrap (subP p (clrP p W a c of pool1 k (of k + c)) (of k) (of a) i (clrP p W a c of pool1 k) (of a + i)))) =
                subP p (clrP p W a c of pool1 k (of k + c)) (of k) (of a) i (clrP p W a c of pool1 k) (of k + i) - clrP p W a c of pool1 k (of k + c) * subP p (clrP p W a c of pool1 k (of k + c)) (of k) (of a) i (clrP p W a c of pool1 k) (of a + i) := by
              rw [s1, s2, s3, wrap64_id (x := pool1 (of k + i)) (by omega) (by omega), wrap64_id (x := pool1 (of k + c)) (by omega) (by omega), wrap64_id (x := pool1 (of a + i)) (by omega) (by omega), wrap64_id (x := pool1 (of k + c) * pool1 (of a + i)) (by omega) (by omega), wrap64_id (by omega) (by omega)]
            rw [ew, subP_next]
            intro y hy z hz
            exact t1.dis k a hk ha e y z (by omega) (by omega)
          · simp only [impl_system_clear_v2.l2, impl_system_clear_v2.b2, t.len a ha, Nat.zero_add, Nat.mul_one, Int.toNat_natCast, Int.lt_irrefl, decide_false, Bool.false_eq_true, if_false, impl_system_clear_v2.a2_0, nx' (show k < 100000000 by omega)]
    · simp only [impl_system_clear_v2.l1, impl_system_clear_v2.b1, Int.lt_irrefl, decide_false, Bool.false_eq_true, if_false, impl_system_clear_v2.a1_0]
end
end Go.Proofs.Ytmjpfchbkolcbaa.H
namespace Go.Proofs.Ytmjpfchbkolcbaa.H
open Go Go.RowKit Go.Proofs.Ytmjpfchbkolcbaa.Hy
set_option linter.unusedVariables false
set_option linter.unusedSimpArgs false
set_option maxRecDepth 100000
section
variable {ρ : Type} {p : Int} {N W : Nat} {of ln : Nat → Nat} {pool : Nat → Int}
theorem clear_ok (hp : isP p = true) (t : Tbl p N W of ln pool) {a c : Nat} (ha : a < N) (hc : c < W) :
    Tbl p N W of ln (clrP p W a c of (sclP p (invN p (pool (of a + c)) : Int) (of a) W pool) N) ∧
    (∀ z, z < W → p ∣ clrP p W a c of (sclP p (invN p (pool (of a + c)) : Int) (of a) W pool) N (of a + z) - (invN p (pool (of a + c)) : Int) * pool (of a + z)) ∧
    (∀ k, k < N → k ≠ a → ∀ z, z < W → p ∣ clrP p W a c of (sclP p (invN p (pool (of a + c)) : Int) (of a) W pool) N (of k + z) - (pool (of k + z) - pool (of k + c) * clrP p W a c of (sclP p (invN p (pool (of a + c)) : Int) (of a) W pool) N (of a + z))) := by
  have hr := isP_range hp
  generalize (invN p (pool (of a + c)) : Int) = b
  have t1 : Tbl p N W of ln (sclP p b (of a) W pool) := ⟨t.len, t.dis, fun k z hk hz => by
    unfold sclP
    split
    · exact ⟨Int.emod_nonneg _ (by omega), Int.emod_lt_of_pos _ (by omega)⟩
    · exact t.ent k z hk hz⟩
  have sa : ∀ z, z < W → sclP p b (of a) W pool (of a + z) = b * pool (of a + z) % p := fun z hz => by unfold sclP; rw [if_pos (by omega)]
  have sk : ∀ k z, k < N → k ≠ a → z < W → sclP p b (of a) W pool (of k + z) = pool (of k + z) := fun k z hk hne hz => by
    unfold sclP
    rw [if_neg]
    rintro ⟨g1, g2⟩
    exact t.dis k a hk ha hne z (of k + z - of a) hz (by omega) (by omega)
  have ra : ∀ z, z < W → clrP p W a c of (sclP p b (of a) W pool) N (of a + z) = b * pool (of a + z) % p := fun z hz => by
    rw [clr_row t1 ha N (Nat.le_refl N) a z ha hz (.inr rfl), sa z hz]
  have rk : ∀ k z, k < N → k ≠ a → z < W → _ := fun k z hk hne hz => clr_got (p := p) (by omega) t1 ha hc N (Nat.le_refl N) k z hk hne hz
  refine ⟨⟨t.len, t.dis, fun k z hk hz => ?_⟩, fun z hz => ?_, fun k hk hne z hz => ?_⟩
  · by_cases e : k = a
    · subst e; rw [ra z hz]; exact ⟨Int.emod_nonneg _ (by omega), Int.emod_lt_of_pos _ (by omega)⟩
    · exact (rk k z hk e hz).2
  · rw [ra z hz]
    exact Cg.mod (p := p) (n := 1) (v := fun _ => b * pool (of a + z)) 0 (by omega)
  · have := (rk k z hk hne hz).1
    rw [sk k z hk hne hz, sk k c hk hne hc, sa z hz] at this
    rw [ra z hz]
    exact this
theorem index_eq (K : Int → Option ρ) {s d1 d2 c : Nat} {cf : Nat → Int} (hcf : cf = fun _ => (c : Int)) (hs : s ≤ 1000) (hl : ∀ x, x < s → ln x = W) (hc : c < W) :
    slices_IndexFunc_suhf 6000 K s d1 d2 of ln cf pool = if seekN (fun x => !decide (pool (of x + c) = 0)) 0 s < s then K (seekN (fun x => !decide (pool (of x + c) = 0)) 0 s : Int) else K (-1) := by
  subst hcf
  unfold slices_IndexFunc_suhf slices_IndexFunc_suhf.s
  refine Eq.trans (loop_seek (l := fun N i => slices_IndexFunc_suhf.l0 6000 K s of ln (fun _ => (c : Int)) pool (slices_IndexFunc_suhf.a0_0 6000 K) N (i : Int)) (n := s) (fun x => !decide (pool (of x + c) = 0)) (fun i => if i < s then K (i : Int) else K (-1)) (fun q i hi => ?_) (fun q => ?_) s 0 6000 (by omega) (by omega)) rfl
  · simp only [slices_IndexFunc_suhf.l0, slices_IndexFunc_suhf.b0, impl_system_solve_c1_su]
    have h1 : (i : Int) < (s : Int) := by omega
    have h2 : (0 : Int) ≤ i ∧ (i : Int) < (s : Int) := by omega
    have h3 : (0 : Int) ≤ c ∧ (c : Int) < (W : Int) := by omega
    simp only [h1, h2, h3, hl i hi, hi, decide_true, if_true, and_self, Int.toNat_natCast, Nat.zero_add, Nat.mul_one, nx' (show i < 100000000 by omega)]
    by_cases e : pool (of i + c) = 0
    · simp [e]
    · simp [e]
  · simp only [slices_IndexFunc_suhf.l0, slices_IndexFunc_suhf.b0, Int.lt_irrefl, decide_false, Bool.false_eq_true, if_false, slices_IndexFunc_suhf.a0_0, Nat.lt_irrefl]
theorem offN_zero' {g : Nat → Nat} : offN 0 g = g := by funext z; simp [offN]
def swO {α : Type} (h : Nat → α) (d e : Nat) : Nat → α := upd (upd h d (h e)) e (h d)
theorem swO_at {α : Type} {h : Nat → α} {d e k : Nat} : swO h d e k = h (if k = e then d else if k = d then e else k) := by
  unfold swO upd
  by_cases h1 : k = e
  · rw [if_pos h1, if_pos h1]
  · rw [if_neg h1, if_neg h1]
    by_cases h2 : k = d
    · rw [if_pos h2, if_pos h2]
    · rw [if_neg h2, if_neg h2]
theorem Tbl.swap (t : Tbl p N W of ln pool) {d e : Nat} (hd : d < N) (he : e < N) : Tbl p N W (swO of d e) (swO ln d e) pool := by
  have lt : ∀ k, k < N → (if k = e then d else if k = d then e else k) < N := fun k hk => by split; exact hd; split; exact he; exact hk
  refine ⟨fun k hk => by rw [swO_at]; exact t.len _ (lt k hk), fun j k hj hk hne y z hy hz => ?_, fun k z hk hz => by rw [swO_at]; exact t.ent _ z (lt k hk) hz⟩
  rw [swO_at, swO_at]
  refine t.dis _ _ (lt j hj) (lt k hk) ?_ y z hy hz
  split <;> split <;> (try split) <;> (try split) <;> omega
theorem swap_rows {d e : Nat} : rowO (swO of d e) pool = swapR (rowO of pool) d e := by
  funext k z
  unfold rowO swapR
  rw [swO_at]
  by_cases h1 : k = e
  · simp only [if_pos h1]
  · by_cases h2 : k = d
    · simp only [if_neg h1, if_pos h2]
    · simp only [if_neg h1, if_neg h2]
theorem solve_loop (hp : isP p = true) {f : Nat → Int} (hf : f 0 = p) {mn q : Nat} (hmn : mn ≤ 8) (hN : N ≤ 1000) {G : (Nat → Int) → Prop} :
    ∀ (n fuel c d : Nat) (of ln : Nat → Nat) (pool pls : Nat → Int) (plf : Nat → Nat), c + n = mn → n < fuel → Tbl p N (mn + 1) of ln pool → Elim p N c d (rowO of pool) plf → (∀ k, k < N → p ∣ pool (of k + mn)) →
      Sub p mn (Rw N (rowO of pool)) G → Sub p mn G (Rw N (rowO of pool)) → (∀ k, k < d → pls k = (plf k : Int)) →
    ∃ (d' : Nat) (of' ln' : Nat → Nat) (pool' pls' : Nat → Int) (plf' : Nat → Nat), d' ≤ N ∧
      (∀ (K0 : Bool → Nat → Nat → Nat → (Nat → Nat) → (Nat → Nat) → (Nat → Int) → (Nat → Int) → Option ρ) (out0 : Int → Nat → (Nat → Nat) → (Nat → Nat) → (Nat → Int) → (Nat → Int) → Option ρ), impl_system_solve.l0 6000 K0 f (fun _ => (mn : Int)) N q out0 fuel (d : Int) d of ln pool (fun _ => (c : Int)) pls = out0 (d' : Int) d' of' ln' pool' pls') ∧
      Tbl p N (mn + 1) of' ln' pool' ∧ Red p mn d' (rowO of' pool') plf' ∧ (∀ k, k < N → p ∣ pool' (of' k + mn)) ∧ Sub p mn (Rw d' (rowO of' pool')) G ∧ Sub p mn G (Rw d' (rowO of' pool')) ∧ (∀ k, k < d' → pls' k = (plf' k : Int)) := by
  have hr := isP_range hp
  intro n
  induction n with
  | zero =>
    intro fuel c d of ln pool pls plf hc hfu t E hz s1 s2 hpl
    obtain ⟨fuel, rfl⟩ : ∃ k, fuel = k + 1 := ⟨fuel - 1, by omega⟩
    have : c = mn := by omega
    subst this
    obtain ⟨e1, e2, e3⟩ := E.done (Nat.le_refl c) (.inl rfl)
    refine ⟨d, of, ln, pool, pls, plf, E.dN, fun K0 out0 => ?_, t, e1, hz, e3.trans s1, s2.trans e2, hpl⟩
    simp only [impl_system_solve.l0, impl_system_solve.b0, Int.lt_irrefl, decide_false, Bool.false_eq_true, if_false]
  | succ n ih =>
    intro fuel c d of ln pool pls plf hc hfu t E hz s1 s2 hpl
    obtain ⟨fuel, rfl⟩ : ∃ k, fuel = k + 1 := ⟨fuel - 1, by omega⟩
    have hcm : (c : Int) < (mn : Int) := by omega
    have hdN := E.dN
    by_cases hd : d < N
    · have hdi : (d : Int) < (N : Int) := by omega
      have hdr : (0 : Int) ≤ d ∧ (d : Int) ≤ (N : Int) ∧ (N : Int) ≤ (N : Int) := ⟨by omega, by omega, by omega⟩
      have hdr2 : (0 : Int) ≤ d ∧ (d : Int) < (N : Int) := by omega
      let E0 := seekN (fun x => !decide (pool (offN (0 + d * 1) of x + c) = 0)) 0 (N - d)
      have hE0 : E0 = seekN (fun x => !decide (pool (offN (0 + d * 1) of x + c) = 0)) 0 (N - d) := rfl
      by_cases hfound : E0 < N - d
      · have hg : pool (of (d + E0) + c) ≠ 0 := by
          have := seekN_good (good := fun x => !decide (pool (offN (0 + d * 1) of x + c) = 0)) (k := N - d) (i := 0) (by rw [← hE0]; omega)
          rw [← hE0] at this
          simp only [offN, Nat.mul_one, Nat.zero_add] at this
          simpa using this
        have hEN : d + E0 < N := by omega
        have t1 := t.swap hd hEN
        have ed : swO of d (d + E0) d = of (d + E0) := by
          rw [swO_at]
          by_cases e : d = d + E0
          · rw [if_pos e, ← e]
          · rw [if_neg e, if_pos rfl]
        have hnz : pool (swO of d (d + E0) d + c) ≠ 0 := by rw [ed]; exact hg
        have hcW : c < mn + 1 := by omega
        have hent := t1.ent d c hd hcW
        obtain ⟨v1, v2, v3⟩ := invN_ok hp (x := pool (swO of d (d + E0) d + c)) (by omega) (by omega)
        obtain ⟨t2, o1, o2⟩ := clear_ok hp t1 (c := c) hd hcW
        have E1 : Elim p N c d (rowO (swO of d (d + E0)) pool) plf := by rw [swap_rows]; exact E.swap (by omega) hEN
        have cgS : Cg p mn (rowO (swO of d (d + E0)) (clrP p (mn + 1) d c (swO of d (d + E0)) (sclP p (invN p (pool (swO of d (d + E0) d + c)) : Int) (swO of d (d + E0) d) (mn + 1) pool) N) d) fun i => (invN p (pool (swO of d (d + E0) d + c)) : Int) * rowO (swO of d (d + E0)) pool d i := fun i hi => o1 i (by omega)
        have cgO : ∀ k, k < N → k ≠ d → Cg p mn (rowO (swO of d (d + E0)) (clrP p (mn + 1) d c (swO of d (d + E0)) (sclP p (invN p (pool (swO of d (d + E0) d + c)) : Int) (swO of d (d + E0) d) (mn + 1) pool) N) k) fun i => rowO (swO of d (d + E0)) pool k i - rowO (swO of d (d + E0)) pool k c * rowO (swO of d (d + E0)) (clrP p (mn + 1) d c (swO of d (d + E0)) (sclP p (invN p (pool (swO of d (d + E0) d + c)) : Int) (swO of d (d + E0) d) (mn + 1) pool) N) d i := fun k hk hne i hi => o2 k hk hne i (by omega)
        have E2 := E1.step hd (show c < mn by omega) v3 cgS cgO
        obtain ⟨q1, q2⟩ := step_sub (p := p) (n := mn) (N := N) (c := c) hd v3 cgS cgO
        obtain ⟨q3, q4⟩ := swap_sub (p := p) (n := mn) (N := N) (S := rowO of pool) hd hEN
        rw [← swap_rows] at q3 q4
        have hzs : ∀ k, k < N → p ∣ pool (swO of d (d + E0) k + mn) := fun k hk => by
          rw [swO_at]
          exact hz _ (by split; exact hd; split; exact hEN; exact hk)
        have hz2 : ∀ k, k < N → p ∣ clrP p (mn + 1) d c (swO of d (d + E0)) (sclP p (invN p (pool (swO of d (d + E0) d + c)) : Int) (swO of d (d + E0) d) (mn + 1) pool) N (swO of d (d + E0) k + mn) := fun k hk => by
          have zd := Int.dvd_add (o1 mn (by omega)) (Int.dvd_mul_of_dvd_right (b := (invN p (pool (swO of d (d + E0) d + c)) : Int)) (hzs d hd))
          have zd' := dvd_of_eq (b := clrP p (mn + 1) d c (swO of d (d + E0)) (sclP p (invN p (pool (swO of d (d + E0) d + c)) : Int) (swO of d (d + E0) d) (mn + 1) pool) N (swO of d (d + E0) d + mn)) zd (by omega)
          by_cases e : k = d
          · subst e; exact zd'
          · have := Int.dvd_add (o2 k hk e mn (by omega)) (Int.dvd_sub (hzs k hk) (Int.dvd_mul_of_dvd_right (b := pool (swO of d (d + E0) k + c)) zd'))
            exact dvd_of_eq this (by omega)
        obtain ⟨d', of', ln', pool', pls', plf', r1, r2, r3, r4, r5, r6, r7, r8⟩ := ih fuel (c + 1) (d + 1) (swO of d (d + E0)) (swO ln d (d + E0)) _ (joinN (d * 1) pls (upd (fun _ => 0) 0 (c : Int))) _ (by omega) (by omega) t2 E2 hz2 (q1.trans (q3.trans s1)) (s2.trans (q4.trans q2)) (fun k hk => by
          unfold joinN upd
          by_cases e : k = d
          · subst e; simp
          · rw [if_pos (by omega)]; simp only [e, if_false]; exact hpl k (by omega))
        refine ⟨d', of', ln', pool', pls', plf', r1, fun K0 out0 => ?_, r3, r4, r5, r6, r7, r8⟩
        rw [← r2 K0 out0]
        have hb : (d + 1) * 8 ≤ 140737488355328 := by omega
        have ew : IntKind.i64.wrap ((d : Int) + (E0 : Int)) = ((d + E0 : Nat) : Int) := by rw [wrap64_id (by omega) (by omega)]; omega
        have hEr : (0 : Int) ≤ ((d + E0 : Nat) : Int) ∧ ((d + E0 : Nat) : Int) < (N : Int) := by omega
        have hneg : ¬ ((E0 : Nat) : Int) < 0 := by omega
        simp only [impl_system_solve.l0, impl_system_solve.b0, hcm, hdi, hdr, hdr2, decide_true, if_true, and_self, Int.toNat_natCast]
        rw [index_eq (W := mn + 1) (c := c) _ rfl (by omega) (fun x hx => by unfold offN; exact t.len _ (by omega)) (by omega)]
        rw [← hE0, if_pos hfound]
        simp only [hneg, decide_false, Bool.false_eq_true, if_false, ew, hEr, hdr2, and_self, if_true, Int.toNat_natCast, Nat.zero_add, Nat.mul_one, offN_zero']
        have ecl := impl_clear (ρ := ρ) (N := N) (W := mn + 1) (of := swO of d (d + E0)) (ln := swO ln d (d + E0)) (pool := pool) hp t1
        refine Eq.trans (ecl _ hf hd hcW (by omega) (by omega) hnz) ?_
        simp only [hb, if_true, nx' (show d < 100000000 by omega), nx' (show c < 100000000 by omega)]
        rfl
      · have hno : ∀ k, d ≤ k → k < N → pool (of k + c) = 0 := fun k h1 h2 => by
          have hE : E0 = N - d := by
            have := (seekN_range (good := fun x => !decide (pool (offN (0 + d * 1) of x + c) = 0)) (k := N - d) (i := 0)).2
            rw [← hE0] at this
            omega
          have := seekN_low (good := fun x => !decide (pool (offN (0 + d * 1) of x + c) = 0)) (k := N - d) (i := 0) (k - d) (by omega) (by rw [← hE0]; omega)
          simp only [offN, Nat.mul_one, Nat.zero_add, show d + (k - d) = k by omega] at this
          simpa using this
        obtain ⟨d', of', ln', pool', pls', plf', r1, r2, r3, r4, r5, r6, r7, r8⟩ := ih fuel (c + 1) d of ln pool pls plf (by omega) (by omega) t (E.skip fun k h1 h2 => by unfold rowO; rw [hno k h1 h2]; exact Int.dvd_zero _) hz s1 s2 hpl
        refine ⟨d', of', ln', pool', pls', plf', r1, fun K0 out0 => ?_, r3, r4, r5, r6, r7, r8⟩
        rw [← r2 K0 out0]
        simp only [impl_system_solve.l0, impl_system_solve.b0, hcm, hdi, hdr, decide_true, if_true, and_self, Int.toNat_natCast]
        rw [index_eq (W := mn + 1) (c := c) _ rfl (by omega) (fun x hx => by unfold offN; exact t.len _ (by omega)) (by omega)]
        rw [← hE0, if_neg hfound]
        simp only [show decide ((-1 : Int) < 0) = true from rfl, if_true, nx' (show c < 100000000 by omega)]
    · have hdi : ¬ (d : Int) < (N : Int) := by omega
      obtain ⟨e1, e2, e3⟩ := E.done (n := mn) (by omega) (.inr (by omega))
      refine ⟨d, of, ln, pool, pls, plf, E.dN, fun K0 out0 => ?_, t, e1, hz, e3.trans s1, s2.trans e2, hpl⟩
      simp only [impl_system_solve.l0, impl_system_solve.b0, hcm, hdi, decide_true, decide_false, Bool.false_eq_true, if_false, if_true]
end
end Go.Proofs.Ytmjpfchbkolcbaa.H
namespace Go.Proofs.Ytmjpfchbkolcbaa.H
open Go Go.RowKit Go.Proofs.Ytmjpfchbkolcbaa.Hy
set_option linter.unusedVariables false
set_option linter.unusedSimpArgs false
set_option maxRecDepth 100000
section
variable {ρ : Type} {p : Int} {N W : Nat} {of ln : Nat → Nat} {pool : Nat → Int}
theorem contains_no (K : Bool → Option ρ) {s d1 d2 mn e1 e2 e3 e4 e5 : Nat} {o1 o2 : Nat → Nat} {f h : Nat → Int} (hs : s ≤ 1000) (hl : ∀ x, x < s → ln x = mn + 1) (hz : ∀ x, x < s → pool (of x + mn) = 0) :
    slices_ContainsFunc_suhf 6000 K s d1 d2 of ln pool f (fun _ => (mn : Int)) e1 e2 e3 e4 o1 o2 e5 h = K false := by
  unfold slices_ContainsFunc_suhf slices_IndexFunc_suhf_v2 slices_IndexFunc_suhf_v2.s
  simp only [offN_zero']
  refine go_at (n := s) (fun q i hi => ?_) (fun q => ?_) (by omega)
  · simp only [slices_IndexFunc_suhf_v2.l0, slices_IndexFunc_suhf_v2.b0, impl_system_solve_c2_su]
    have h1 : (i : Int) < (s : Int) := by omega
    have h2 : (0 : Int) ≤ i ∧ (i : Int) < (s : Int) := by omega
    have h3 : (0 : Int) ≤ mn ∧ (mn : Int) < ((mn + 1 : Nat) : Int) := by omega
    simp only [h1, h2, h3, hl i hi, hz i hi, decide_true, if_true, and_self, Int.toNat_natCast, Nat.zero_add, Nat.mul_one, nx' (show i < 100000000 by omega), bne_self_eq_false, Bool.false_eq_true, if_false]
  · simp only [slices_IndexFunc_suhf_v2.l0, slices_IndexFunc_suhf_v2.b0, Int.lt_irrefl, decide_false, Bool.false_eq_true, if_false, slices_IndexFunc_suhf_v2.a0_0]
    rfl
theorem impl_solve (hp : isP p = true) {f : Nat → Int} (hf : f 0 = p) {mn q : Nat} (hmn : mn ≤ 8) (hN : N ≤ 1000) (t : Tbl p N (mn + 1) of ln pool) (hz : ∀ k, k < N → p ∣ pool (of k + mn)) :
    ∃ (d' : Nat) (of' ln' : Nat → Nat) (pool' pls' : Nat → Int) (plf' : Nat → Nat), d' ≤ N ∧
      (∀ K0 : Bool → Nat → Nat → Nat → (Nat → Nat) → (Nat → Nat) → (Nat → Int) → (Nat → Int) → Option ρ, impl_system_solve 6000 K0 f (fun _ => (mn : Int)) N q of ln pool = K0 true d' d' q of' ln' pool' pls') ∧
      Tbl p N (mn + 1) of' ln' pool' ∧ Red p mn d' (rowO of' pool') plf' ∧ Sub p mn (Rw d' (rowO of' pool')) (Rw N (rowO of pool)) ∧ Sub p mn (Rw N (rowO of pool)) (Rw d' (rowO of' pool')) ∧ (∀ k, k < d' → pls' k = (plf' k : Int)) := by
  obtain ⟨d', of', ln', pool', pls', plf', r1, r2, r3, r4, r5, r6, r7, r8⟩ := solve_loop (ρ := ρ) (N := N) hp hf (mn := mn) (q := q) hmn hN (G := Rw N (rowO of pool)) mn 6000 0 0 of ln pool (fun _ => 0) (fun _ => 0) (by omega) (by omega) t Elim.init hz Sub.refl Sub.refl (fun k hk => by omega)
  refine ⟨d', of', ln', pool', pls', plf', r1, fun K0 => ?_, r3, r4, r6, r7, r8⟩
  unfold impl_system_solve impl_system_solve.s
  refine Eq.trans (r2 _ _) ?_
  have h1 : (0 : Int) ≤ d' ∧ (d' : Int) ≤ (N : Int) ∧ (N : Int) ≤ (N : Int) := ⟨by omega, by omega, by omega⟩
  have h2 : (0 : Int) ≤ (0 : Int) ∧ (0 : Int) ≤ (d' : Int) ∧ (d' : Int) ≤ (N : Int) := ⟨by omega, by omega, by omega⟩
  simp only [impl_system_solve.a0_0, h1, h2, and_self, if_true, Int.toNat_natCast]
  refine Eq.trans (contains_no (mn := mn) _ (by omega) (fun x hx => ?_) (fun x hx => ?_)) rfl
  · unfold offN; exact r3.len _ (by omega)
  · have hx' : 0 + d' * 1 + x < N := by omega
    have := r3.ent (0 + d' * 1 + x) mn hx' (by omega)
    exact zero_of (r5 _ hx') this.1 this.2
def rdO : Nat → Nat → Nat
  | 0 => fun _ => 0
  | i + 1 => upd (rdO i) i (9 * i)
def rdL : Nat → Nat → Nat
  | 0 => fun _ => 0
  | i + 1 => upd (rdL i) i 9
def rdP (L : Nat → Int) : Nat → Nat → Int
  | 0 => fun _ => 0
  | i + 1 => joinN (9 * i) (rdP L i) (joinN 8 (joinN 0 (fun _ => 0) fun z => L (i * 8 + z)) (upd (fun _ => 0) 0 0))
theorem rd_ok {L : Nat → Int} : ∀ i k, k < i → rdO i k = 9 * k ∧ rdL i k = 9 ∧ (∀ z, z < 8 → rdP L i (9 * k + z) = L (k * 8 + z)) ∧ rdP L i (9 * k + 8) = 0
  | 0, k, h => by omega
  | i + 1, k, h => by
    by_cases e : k = i
    · subst e
      refine ⟨by simp [rdO, upd], by simp [rdL, upd], fun z hz => ?_, ?_⟩
      · simp only [rdP, joinN]
        rw [if_neg (by omega), if_pos (by omega), if_neg (by omega)]
        congr 1; omega
      · simp only [rdP, joinN, upd]
        rw [if_neg (by omega), if_neg (by omega), if_pos (by omega)]
    · obtain ⟨h1, h2, h3, h4⟩ := rd_ok (L := L) i k (by omega)
      refine ⟨by simp only [rdO, upd]; rw [if_neg e]; exact h1, by simp only [rdL, upd]; rw [if_neg e]; exact h2, fun z hz => ?_, ?_⟩
      · simp only [rdP, joinN]; rw [if_pos (by omega)]; exact h3 z hz
      · simp only [rdP, joinN]; rw [if_pos (by omega)]; exact h4
def fnS (of : Nat → Nat) (pool : Nat → Int) : Nat → Nat → Int
  | 0 => fun _ => 0
  | j + 1 => joinN (j * 8) (fnS of pool j) (fun z => pool (of j + z))
theorem fnS_row : ∀ {j k z : Nat}, k < j → z < 8 → rw8 (fnS of pool j) k z = pool (of k + z)
  | 0, k, z, h, _ => by omega
  | j + 1, k, z, h, hz => by
    simp only [fnS]
    by_cases e : k = j
    · subst e; rw [rw8_eq]
    · rw [rw8_lt (by omega) hz]; exact fnS_row (by omega) hz
theorem reduced_ok (hp : isP p = true) {L : Nat → Int} {a b : Nat} (hN : N ≤ 1000) (hL : ∀ i, i < N → inP p (rw8 L i)) :
    ∃ (d : Nat) (g' : Nat → Int) (l : Nat → Nat), (∀ K : Nat → (Nat → Int) → Option ρ, impl_reduced_su 6000 K p N a L = K d g') ∧ RedG p d g' l ∧ Sub p 8 (Rw d (rw8 g')) (Rw N (rw8 L)) ∧ Sub p 8 (Rw N (rw8 L)) (Rw d (rw8 g')) := by
  have hr := isP_range hp
  have T : Tbl p N (8 + 1) (rdO N) (rdL N) (rdP L N) := by
    refine ⟨fun k hk => (rd_ok (L := L) N k hk).2.1, fun j k hj hk hne y z hy hz => ?_, fun k z hk hz => ?_⟩
    · rw [(rd_ok (L := L) N j hj).1, (rd_ok (L := L) N k hk).1]; omega
    · obtain ⟨h1, h2, h3, h4⟩ := rd_ok (L := L) N k hk
      rw [h1]
      by_cases e : z = 8
      · subst e; rw [h4]; omega
      · rw [h3 z (by omega)]; exact hL k hk z (by omega)
  have hz : ∀ k, k < N → p ∣ rdP L N (rdO N k + 8) := fun k hk => by
    obtain ⟨h1, h2, h3, h4⟩ := rd_ok (L := L) N k hk
    rw [h1, h4]; exact Int.dvd_zero _
  obtain ⟨d, of', ln', pool', pls', plf', r1, r2, r3, r4, r5, r6, r7⟩ := impl_solve (ρ := ρ) (N := N) (q := 9 * N) hp (f := upd (upd (fun _ => 0) 0 p) 1 0) (by simp [upd]) (mn := 8) (by omega) hN T hz
  have rw1 : ∀ k, k < d → Cg p 8 (rw8 (fnS of' pool' d) k) (rowO of' pool' k) := fun k hk => Cg.of_eq fun i hi => fnS_row hk hi
  have rw2 : ∀ k, k < N → Cg p 8 (rw8 L k) (rowO (rdO N) (rdP L N) k) := fun k hk => Cg.of_eq fun i hi => by
    obtain ⟨h1, h2, h3, h4⟩ := rd_ok (L := L) N k hk
    unfold rowO
    rw [h1, h3 i hi]; rfl
  refine ⟨d, fnS of' pool' d, plf', fun K => ?_, ⟨r4.cg rw1, fun k hk i hi => ?_⟩, Sub.trans (fun r hh => ?_) (r5.trans fun r hh => ?_), Sub.trans (fun r hh => ?_) (r6.trans fun r hh => ?_)⟩
  · unfold impl_reduced_su impl_reduced_su.s impl_newSystem
    have main := loop_st (l := fun F (i : Nat) (s : Nat × Nat × (Nat → Nat) × (Nat → Nat) × (Nat → Int)) => impl_reduced_su.l0 6000 K N L (fun ov15 ov16 ov17 ov18 ov19 => impl_reduced_su.a0_0 6000 K (fun rv21 rv23 rv24 rv25 rv26 outv28 x29 gv30 => impl_reduced_su.l1 6000 K rv21 rv24 rv25 rv26 (fun ov31 ov32 => impl_reduced_su.a1_0 6000 K ov31 ov32) 6000 outv28 x29 gv30) (upd (upd (fun _ => 0) 0 p) 1 0) (fun _ => 8) ov15 ov16 ov17 ov18 ov19) F (i : Int) s.1 s.2.1 s.2.2.1 s.2.2.2.1 s.2.2.2.2) (n := N)
      (out := K d (fnS of' pool' d)) (fun i => (i, 9 * i, rdO i, rdL i, rdP L i)) (fun q i hi => ?_) (fun q => ?_) N 0 6000 (by omega) (by omega)
    · simpa [rdO, rdL, rdP] using main
    · simp only [impl_reduced_su.l0, impl_reduced_su.b0, slices_Clone_s]
      have h1 : (i : Int) < (N : Int) := by omega
      have h2 : (0 : Int) ≤ i ∧ (i : Int) < (N : Int) := by omega
      have b1 : (i + 1) * 24 ≤ 140737488355328 := by omega
      simp only [h1, h2, b1, decide_true, if_true, and_self, Int.toNat_natCast, Nat.zero_add, Nat.mul_one, nx' (show i < 100000000 by omega), rdO, rdL, rdP]
      have e9 : 9 * i + (8 + 1) = 9 * (i + 1) := by omega
      simp only [e9]
      rfl
    · simp only [impl_reduced_su.l0, impl_reduced_su.b0, Int.lt_irrefl, decide_false, Bool.false_eq_true, if_false, impl_reduced_su.a0_0]
      refine Eq.trans (r2 _) ?_
      have m2 := loop_st (l := fun F (i : Nat) (s : Nat × Int × (Nat → Int)) => impl_reduced_su.l1 6000 K d of' ln' pool' (fun ov31 ov32 => impl_reduced_su.a1_0 6000 K ov31 ov32) F s.1 s.2.1 s.2.2) (n := d) (out := K d (fnS of' pool' d)) (fun i => (i, (i : Int), fnS of' pool' i)) (fun q i hi => ?_) (fun q => ?_) d 0 6000 (by omega) (by omega)
      · simpa [fnS] using m2
      · simp only [impl_reduced_su.l1, impl_reduced_su.b1]
        have h1 : (i : Int) < (d : Int) := by omega
        have h2 : (0 : Int) ≤ i ∧ (i : Int) < (d : Int) := by omega
        have h3 : (0 : Int) ≤ (0 : Int) ∧ (0 : Int) ≤ (8 : Int) ∧ (8 : Int) ≤ ((8 + 1 : Nat) : Int) := ⟨by omega, by omega, by omega⟩
        have b1 : (i + 1) * 8 ≤ 140737488355328 := by omega
        simp only [h1, h2, h3, b1, r3.len i (by omega), decide_true, if_true, and_self, Int.toNat_natCast, Nat.zero_add, Nat.mul_one, Nat.add_zero, nx' (show i < 100000000 by omega), fnS]
      · simp only [impl_reduced_su.l1, impl_reduced_su.b1, Int.lt_irrefl, decide_false, Bool.false_eq_true, if_false, impl_reduced_su.a1_0]
  · rw [fnS_row hk hi]; exact r3.ent k i (by omega) (by omega)
  · obtain ⟨k, hk, rfl⟩ := hh
    exact (Sp.of ⟨k, hk, rfl⟩).cg (rw1 k hk)
  · obtain ⟨k, hk, rfl⟩ := hh
    exact (Sp.of ⟨k, hk, rfl⟩).cg (rw2 k hk).symm
  · obtain ⟨k, hk, rfl⟩ := hh
    exact (Sp.of ⟨k, hk, rfl⟩).cg (rw2 k hk)
  · obtain ⟨k, hk, rfl⟩ := hh
    exact (Sp.of ⟨k, hk, rfl⟩).cg (rw1 k hk).symm
theorem RedG.same (hp : 1 < p) {m m' : Nat} {g g' : Nat → Int} {l l' : Nat → Nat} (h : RedG p m g l) (h' : RedG p m' g' l') (a : Sub p 8 (Rw m (rw8 g)) (Rw m' (rw8 g'))) (b : Sub p 8 (Rw m' (rw8 g')) (Rw m (rw8 g))) :
    m = m' ∧ ∀ z, z < m * 8 → g z = g' z := by
  obtain ⟨e, s⟩ := h.red.same hp h'.red (fun k hk => a _ ⟨k, hk, rfl⟩) (fun k hk => b _ ⟨k, hk, rfl⟩)
  subst e
  refine ⟨rfl, fun z hz => ?_⟩
  have hk : z / 8 < m := by omega
  have := (s (z / 8) hk).2.eq_of (h.ent _ hk) (h'.ent _ hk) (z % 8) (by omega)
  unfold rw8 at this
  rwa [show z / 8 * 8 + z % 8 = z by omega] at this
theorem reduced_same (hp : isP p = true) {L L' : Nat → Int} {a b : Nat} (hN : N ≤ 1000) (hL : ∀ i, i < N → inP p (rw8 L i)) (hLL : ∀ z, z < N * 8 → L' z = L z) :
    ∃ g' : Nat → Int, (∀ K : Nat → (Nat → Int) → Option ρ, impl_reduced_su 6000 K p N a L' = K (redM p L N).1 g') ∧ ∀ z, z < (redM p L N).1 * 8 → g' z = (redM p L N).2 z := by
  have hr := isP_range hp
  have rr : ∀ k, k < N → ∀ i, i < 8 → rw8 L' k i = rw8 L k i := fun k hk i hi => hLL _ (by omega)
  obtain ⟨d, g', l, h1, h2, h3, h4⟩ := reduced_ok (ρ := ρ) (a := a) (b := b) hp hN (L := L') (fun i hi z hz => by rw [rr i hi z hz]; exact hL i hi z hz)
  obtain ⟨l', q1, q2, q3⟩ := redM_ok hp hL N (Nat.le_refl N)
  have sL : Sub p 8 (Rw N (rw8 L')) (Rw N (rw8 L)) := by
    rintro r ⟨k, hk, rfl⟩; exact (Sp.of ⟨k, hk, rfl⟩).cg (Cg.of_eq (rr k hk))
  have sL' : Sub p 8 (Rw N (rw8 L)) (Rw N (rw8 L')) := by
    rintro r ⟨k, hk, rfl⟩; exact (Sp.of ⟨k, hk, rfl⟩).cg (Cg.of_eq (rr k hk)).symm
  obtain ⟨e, s⟩ := h2.same (by omega) q1 (h3.trans (sL.trans q3)) (q2.trans (sL'.trans h4))
  refine ⟨g', fun K => by rw [h1 K, e], fun z hz => s z (by omega)⟩
end
end Go.Proofs.Ytmjpfchbkolcbaa.H
namespace Go.Proofs.Ytmjpfchbkolcbaa.H
open Go Go.RowKit Go.Proofs.Ytmjpfchbkolcbaa.Hy
set_option linter.unusedVariables false
set_option linter.unusedSimpArgs false
set_option maxRecDepth 100000
section
variable {ρ σ : Type}
theorem nxB {i : Nat} (h : i < 1000000000000) : IntKind.i64.wrap ((i : Int) + 1) = ((i + 1 : Nat) : Int) := by
  rw [wrap64_id (by omega) (by omega)]; omega
end
end Go.Proofs.Ytmjpfchbkolcbaa.H
namespace Go.Proofs.Ytmjpfchbkolcbaa.H
open Go Go.RowKit Go.Proofs.Ytmjpfchbkolcbaa.Hy
set_option linter.unusedVariables false
set_option linter.unusedSimpArgs false
set_option maxRecDepth 100000
variable {ρ : Type}
theorem eqVector_of (K : Bool → Option ρ) {a b : Nat → Int} (h : ∀ z, z < 8 → a z = b z) : laws_eqVector 6000 K a b = K true := by
  refine loop_go (l := fun m i => laws_eqVector.l0 6000 K a b (laws_eqVector.a0_0 6000 K) m (i : Int)) (n := 8) (fun m i hi => ?_) (fun m => ?_) 8 0 6000 (by omega) (by omega)
  · simp only [laws_eqVector.l0, laws_eqVector.b0]
    have h1 : (i : Int) < 8 := by omega
    have h2 : (0 : Int) ≤ i ∧ (i : Int) < 8 := by omega
    simp [h1, h2, h i hi, nx (show i < 100000 by omega)]
  · rfl
theorem not8 : ¬ (((8 : Nat) : Int) < 8) := by omega
end Go.Proofs.Ytmjpfchbkolcbaa.H
namespace Go.Proofs.Ytmjpfchbkolcbaa.H
open Go Go.RowKit Go.Proofs.Ytmjpfchbkolcbaa.Hy
set_option linter.unusedVariables false
set_option linter.unusedSimpArgs false
set_option maxRecDepth 100000
section
variable {ρ : Type}
theorem eqVsu (K : Bool → Option ρ) {m c d : Nat} {g g' : Nat → Int} (hm : m < 100000000) (hF : m < 6000) (h : ∀ z, z < m * 8 → g z = g' z) : laws_eqVectorS_susu 6000 K m m c g d g' = K true := by
  unfold laws_eqVectorS_susu laws_eqVectorS_susu.s
  simp only [bne_self_eq_false, Bool.false_eq_true, if_false]
  refine go_at (n := m) (fun q i hi => ?_) (fun q => ?_) hF
  · simp only [laws_eqVectorS_susu.l0, laws_eqVectorS_susu.b0]
    have h1 : (i : Int) < (m : Int) := by omega
    have h2 : (0 : Int) ≤ i ∧ (i : Int) < (m : Int) := by omega
    simp only [h1, h2, decide_true, if_true, and_self, Int.toNat_natCast]
    rw [eqVector_of _ (fun z hz => h _ (by omega))]
    simp only [Bool.not_true, Bool.false_eq_true, if_false, nxB (show i < 1000000000000 by omega)]
  · simp only [laws_eqVectorS_susu.l0, laws_eqVectorS_susu.b0, Int.lt_irrefl, decide_false, Bool.false_eq_true, if_false, laws_eqVectorS_susu.a0_0]
def mkB (g : Nat → Int) (n : Nat) : Nat → Int := fun z => if z < n then IntKind.u8.wrap (101 + (z : Int)) else g z
theorem mkB_zero {g : Nat → Int} : mkB g 0 = g := by funext z; simp [mkB]
theorem mkB_next {g : Nat → Int} {n : Nat} : upd (mkB g n) n (IntKind.u8.wrap (101 + (n : Int))) = mkB g (n + 1) := by
  funext z
  unfold upd mkB
  by_cases h : z = n
  · rw [if_pos h, if_pos (by omega), h]
  · rw [if_neg h]
    by_cases h2 : z < n
    · rw [if_pos h2, if_pos (by omega)]
    · rw [if_neg h2, if_neg (by omega)]
theorem nkB {a i : Nat} (h : a + i < 1000000000000) : IntKind.i64.wrap (101 + ((a + i : Nat) : Int) + 1) = 101 + ((a + (i + 1) : Nat) : Int) := by
  rw [wrap64_id (by omega) (by omega)]; omega
theorem markVsu (K : Int → (Nat → Int) → Option ρ) {m c : Nat} {g : Nat → Int} (hm : m ≤ 1000) : laws_markVectorS_su 6000 K m 101 c g = K (101 + ((m * 8 : Nat) : Int)) (mkB g (m * 8)) := by
  unfold laws_markVectorS_su laws_markVectorS_su.s
  refine loop_tat (n := m) (fun i => 101 + ((i * 8 : Nat) : Int)) (fun i => mkB g (i * 8)) (by simp) (by simp only [Nat.zero_mul, mkB_zero]) (fun q i hi => ?_) (fun q => ?_) (by omega)
  · simp only [laws_markVectorS_su.l0, laws_markVectorS_su.b0]
    have h1 : (i : Int) < (m : Int) := by omega
    have h2 : (0 : Int) ≤ i ∧ (i : Int) < (m : Int) := by omega
    simp only [h1, decide_true, if_true]
    refine loop_tat (n := 8) (fun j => 101 + ((i * 8 + j : Nat) : Int)) (fun j => mkB g (i * 8 + j)) (by simp) (by simp) (fun q' j hj => ?_) (fun q' => ?_) (by omega)
    · simp only [laws_markVectorS_su.l1, laws_markVectorS_su.b1]
      have g1 : (j : Int) < 8 := by omega
      have g2 : (0 : Int) ≤ j ∧ (j : Int) < 8 := by omega
      simp only [g1, g2, h2, decide_true, if_true, and_self, Int.toNat_natCast, Nat.mul_one, Nat.zero_add, nx (show j < 100000 by omega), mkB_next, nkB (show i * 8 + j < 1000000000000 by omega), Nat.add_assoc]
    · simp only [laws_markVectorS_su.l1, laws_markVectorS_su.b1, not8, decide_false, Bool.false_eq_true, if_false, laws_markVectorS_su.a1_0, nxB (show i < 1000000000000 by omega)]
      rw [show i * 8 + 8 = (i + 1) * 8 by omega]
  · simp only [laws_markVectorS_su.l0, laws_markVectorS_su.b0, Int.lt_irrefl, decide_false, Bool.false_eq_true, if_false, laws_markVectorS_su.a0_0]
theorem heldVsu (K : Int → Option ρ) {m c : Nat} {g : Nat → Int} (hm : m ≤ 1000) (h : ∀ z, z < m * 8 → g z = IntKind.u8.wrap (101 + (z : Int))) : laws_heldVectorS_su 6000 K m 101 c g = K (101 + ((m * 8 : Nat) : Int)) := by
  unfold laws_heldVectorS_su laws_heldVectorS_su.s
  refine loop_ta (n := m) (fun i => 101 + ((i * 8 : Nat) : Int)) (by simp) (fun q i hi => ?_) (fun q => ?_) (by omega)
  · simp only [laws_heldVectorS_su.l0, laws_heldVectorS_su.b0]
    have h1 : (i : Int) < (m : Int) := by omega
    have h2 : (0 : Int) ≤ i ∧ (i : Int) < (m : Int) := by omega
    simp only [h1, decide_true, if_true]
    refine loop_ta (n := 8) (fun j => 101 + ((i * 8 + j : Nat) : Int)) (by simp) (fun q' j hj => ?_) (fun q' => ?_) (by omega)
    · simp only [laws_heldVectorS_su.l1, laws_heldVectorS_su.b1]
      have g1 : (j : Int) < 8 := by omega
      have g2 : (0 : Int) ≤ j ∧ (j : Int) < 8 := by omega
      simp only [g1, g2, h2, decide_true, if_true, and_self, Int.toNat_natCast, Nat.mul_one, Nat.zero_add, nx (show j < 100000 by omega), h _ (show i * 8 + j < m * 8 by omega), bne_self_eq_false, Bool.false_eq_true, if_false, nkB (show i * 8 + j < 1000000000000 by omega), Nat.add_assoc]
    · simp only [laws_heldVectorS_su.l1, laws_heldVectorS_su.b1, not8, decide_false, Bool.false_eq_true, if_false, laws_heldVectorS_su.a1_0, nxB (show i < 1000000000000 by omega)]
      rw [show i * 8 + 8 = (i + 1) * 8 by omega]
  · simp only [laws_heldVectorS_su.l0, laws_heldVectorS_su.b0, Int.lt_irrefl, decide_false, Bool.false_eq_true, if_false, laws_heldVectorS_su.a0_0]
theorem mkB_held {r g : Nat → Int} {m : Nat} : ∀ z, z < m * 8 → (fun z => updN r 0 (m * 8) (mkB g (m * 8)) (0 + z)) z = IntKind.u8.wrap (101 + (z : Int)) := by
  intro z hz
  simp only [updN, mkB, Nat.zero_add]
  rw [if_pos (by omega), Nat.sub_zero, if_pos hz]
end
end Go.Proofs.Ytmjpfchbkolcbaa.H
namespace Go.Proofs.Ytmjpfchbkolcbaa.H
open Go Go.RowKit Go.Proofs.Ytmjpfchbkolcbaa.Hy
set_option linter.unusedVariables false
set_option linter.unusedSimpArgs false
set_option maxRecDepth 100000
section
variable {ρ : Type} {p : Int} {n : Nat}
def lstV (V : Nat → Nat → Int) : Nat → Nat → Int
  | 0 => fun _ => 0
  | i + 1 => joinN (i * 8) (lstV V i) (V i)
theorem lstV_row {V : Nat → Nat → Int} : ∀ {N k z : Nat}, k < N → z < 8 → rw8 (lstV V N) k z = V k z
  | 0, k, z, h, _ => by omega
  | j + 1, k, z, h, hz => by
    simp only [lstV]
    by_cases e : k = j
    · subst e; rw [rw8_eq]
    · rw [rw8_lt (by omega) hz]; exact lstV_row (by omega) hz
theorem spec_redL {L : Nat → Int} {m c : Nat} (hp : isP p = true) (hm : m ≤ 1000) (hL : ∀ i, i < m → inP p (rw8 L i)) (K : Nat → (Nat → Int) → Option ρ) : spec_l01Reduce_su 6000 K p m c L = K (redM p L m).1 (redM p L m).2 := by
  unfold spec_l01Reduce_su spec_l01Reduce_su.s
  have main := loop_st (l := fun F (i : Nat) (s : Nat × (Nat → Int)) => spec_l01Reduce_su.l0 6000 K p m L (fun ov11 ov12 => spec_l01Reduce_su.a0_0 6000 K ov11 ov12) F s.1 (i : Int) s.2) (n := m) (out := K (redM p L m).1 (redM p L m).2) (fun i => redM p L i) (fun q i hi => ?_) (fun q => ?_) m 0 6000 (by omega) (by omega)
  · exact main
  · simp only [spec_l01Reduce_su.l0, spec_l01Reduce_su.b0]
    have h1 : (i : Int) < (m : Int) := by omega
    have h2 : (0 : Int) ≤ i ∧ (i : Int) < (m : Int) := by omega
    simp only [h1, h2, decide_true, if_true, and_self, Int.toNat_natCast, Nat.zero_add, nx' (show i < 100000000 by omega)]
    obtain ⟨l, r1, _, _⟩ := redM_ok hp hL i (by omega)
    have := spec_put (ρ := ρ) hp r1 (hL i hi) (fun r gg => spec_l01Reduce_su.l0 6000 K p m L (fun ov11 ov12 => spec_l01Reduce_su.a0_0 6000 K ov11 ov12) q r ((i + 1 : Nat) : Int) gg) (c := (redM p L i).1 * 8)
    simp only [Nat.zero_add] at this
    exact this
  · simp only [spec_l01Reduce_su.l0, spec_l01Reduce_su.b0, Int.lt_irrefl, decide_false, Bool.false_eq_true, if_false, spec_l01Reduce_su.a0_0]
theorem Sp.down {N : Nat} (hn : n ≤ N) {G : (Nat → Int) → Prop} {v : Nat → Int} (h : Sp p N G v) : Sp p n G v := by
  induction h with
  | zero h => exact .zero fun i hi => h i (by omega)
  | add a hv hr h ih => exact .add a ih hr fun i hi => h i (by omega)
theorem Sub.down {N : Nat} (hn : n ≤ N) {G H : (Nat → Int) → Prop} (h : Sub p N G H) : Sub p n G H := fun r hr => (h r hr).down hn
theorem Sp.zer {N i : Nat} (hi : i < N) {G : (Nat → Int) → Prop} (hG : ∀ r, G r → p ∣ r i) {v : Nat → Int} (h : Sp p N G v) : p ∣ v i := by
  induction h with
  | zero h => have := h i hi; simpa using this
  | @add v w r a hv hr h ih =>
    obtain ⟨t, e⟩ := h i hi
    have := Int.dvd_add (Int.dvd_add (Int.dvd_mul_right p t) ih) (Int.dvd_mul_of_dvd_right (b := a) (hG r hr))
    exact dvd_of_eq this (by rw [← e]; simp only; omega)
theorem Red.down {N m : Nat} {R : Nat → Nat → Int} {l : Nat → Nat} (h : Red p N m R l) (hl : ∀ k, k < m → l k < n) : Red p n m R l := ⟨hl, h.up, h.one, h.oth, h.low⟩
def leadB (l : Nat → Nat) (m k : Nat) : Bool := !allN (fun i => !decide (l i = k)) 0 m
theorem leadB_iff {l : Nat → Nat} {m k : Nat} : leadB l m k = true ↔ ∃ i, i < m ∧ l i = k := by
  unfold leadB
  rw [Bool.not_eq_true', ← Bool.not_eq_true, allN_true]
  constructor
  · intro h
    apply Classical.byContradiction
    intro g
    apply h
    intro j _ hj
    rw [Bool.not_eq_true', decide_eq_false_iff_not]
    intro e
    exact g ⟨j, by omega, e⟩
  · rintro ⟨i, hi, e⟩ h
    have := h i (by omega) (by omega)
    rw [Bool.not_eq_true', decide_eq_false_iff_not] at this
    exact this e
def nulV (p : Int) (l : Nat → Nat) (A : Nat → Nat → Int) (k : Nat) : Nat → Nat → Int
  | 0 => upd (fun _ => 0) k 1
  | i + 1 => upd (nulV p l A k i) (l i) ((- A i k) % p)
def nulS (p : Int) (l : Nat → Nat) (A : Nat → Nat → Int) (m : Nat) : Nat → Nat × (Nat → Int)
  | 0 => (0, fun _ => 0)
  | k + 1 => if leadB l m k = true then nulS p l A m k else ((nulS p l A m k).1 + 1, joinN ((nulS p l A m k).1 * 8) (nulS p l A m k).2 (nulV p l A k m))
theorem nulS_le {l : Nat → Nat} {A : Nat → Nat → Int} {m : Nat} : ∀ {k : Nat}, (nulS p l A m k).1 ≤ k
  | 0 => Nat.le_refl _
  | k + 1 => by
    have := nulS_le (l := l) (A := A) (m := m) (k := k)
    simp only [nulS]
    split
    · omega
    · simp only; omega
theorem nulV_in (hp : 1 < p) {l : Nat → Nat} {A : Nat → Nat → Int} {k : Nat} : ∀ {i : Nat}, inP p (nulV p l A k i)
  | 0 => fun z _ => by simp only [nulV, upd]; split <;> omega
  | i + 1 => fun z hz => by
    simp only [nulV, upd]
    split
    · exact ⟨Int.emod_nonneg _ (by omega), Int.emod_lt_of_pos _ (by omega)⟩
    · exact nulV_in hp z hz
theorem nulS_in (hp : 1 < p) {l : Nat → Nat} {A : Nat → Nat → Int} {m : Nat} : ∀ {k : Nat}, ∀ i, i < (nulS p l A m k).1 → inP p (rw8 (nulS p l A m k).2 i)
  | 0 => fun i hi => by simp [nulS] at hi
  | k + 1 => fun i hi => by
    have ih := nulS_in hp (l := l) (A := A) (m := m) (k := k)
    simp only [nulS] at hi ⊢
    split at hi
    · rename_i h; rw [if_pos h]; exact ih i hi
    · rename_i h
      rw [if_neg h]
      simp only at hi ⊢
      intro z hz
      by_cases e : i = (nulS p l A m k).1
      · rw [e, rw8_eq]; exact nulV_in hp z hz
      · rw [rw8_lt (by omega) hz]; exact ih i (by omega) z hz
theorem impl_contains (K : Bool → Option ρ) {l : Nat → Nat} {pls : Nat → Int} {d k c : Nat} (hd : d ≤ 1000) (hl : ∀ i, i < d → pls i = (l i : Int)) : slices_Contains_su 6000 K d (k : Int) c pls = K (leadB l d k) := by
  unfold slices_Contains_su slices_Index_su slices_Index_su.s
  simp only [Nat.zero_add]
  have hK : ∀ b : Bool, (if (!b) = true then K false else K true) = K b := by intro b; cases b <;> rfl
  refine Eq.trans (all_at (n := d) (fun i => !decide (l i = k)) (no := K true) (out := K false) (fun q i hi => ?_) (fun q => ?_) (by omega)) ?_
  · simp only [slices_Index_su.l0, slices_Index_su.b0]
    have h1 : (i : Int) < (d : Int) := by omega
    have h2 : (0 : Int) ≤ i ∧ (i : Int) < (d : Int) := by omega
    simp only [h1, h2, decide_true, if_true, and_self, Int.toNat_natCast, Nat.zero_add, Nat.mul_one, nx' (show i < 100000000 by omega), hl i hi]
    by_cases e : l i = k
    · have e' : ((k : Int) == (l i : Int)) = true := by rw [e]; simp
      simp [e]
    · have e' : ((k : Int) == (l i : Int)) = false := by rw [beq_eq_false_iff_ne]; omega
      simp [e, e']
  · simp only [slices_Index_su.l0, slices_Index_su.b0, Int.lt_irrefl, decide_false, Bool.false_eq_true, if_false, slices_Index_su.a0_0]
    rfl
  · unfold leadB
    cases allN (fun i => !decide (l i = k)) 0 d <;> rfl
theorem impl_spaces (hp : isP p = true) {f : Nat → Int} (hf : f 0 = p) {d a b c : Nat} {of ln l : Nat → Nat} {pool pls : Nat → Int} {A : Nat → Nat → Int} (hn : n ≤ 8) (hd : d ≤ 8) (hl : ∀ i, i < d → pls i = (l i : Int)) (hl8 : ∀ i, i < d → l i < 8)
    (hlen : ∀ i, i < d → ln i = n + 1) (hA : ∀ i z, i < d → z < n → pool (of i + z) = A i z) (hAr : ∀ i z, i < d → z < n → 0 ≤ A i z ∧ A i z < p) (K : Nat → (Nat → Int) → Option ρ) :
    impl_system_spaces 6000 K f (fun _ => (n : Int)) d d a b of ln c pls pool = impl_reduced_su 6000 K p (nulS p l A d n).1 ((nulS p l A d n).1 * 8) (nulS p l A d n).2 := by
  have hr := isP_range hp
  unfold impl_system_spaces impl_system_spaces.s
  have main := loop_st (l := fun F (i : Nat) (s : Nat × (Nat → Int)) => impl_system_spaces.l0 6000 K f (fun _ => (n : Int)) d d of ln pls pool (fun ov20 ov21 => impl_system_spaces.a0_0 6000 K f ov20 ov21) F s.1 (i : Int) s.2) (n := n)
    (out := impl_reduced_su 6000 K p (nulS p l A d n).1 ((nulS p l A d n).1 * 8) (nulS p l A d n).2) (fun i => nulS p l A d i) (fun q k hk => ?_) (fun q => ?_) n 0 6000 (by omega) (by omega)
  · exact main
  · simp only [impl_system_spaces.l0, impl_system_spaces.b0]
    have h1 : (k : Int) < (n : Int) := by omega
    simp only [h1, decide_true, if_true, Nat.zero_add]
    rw [impl_contains _ (by omega) hl]
    have hle := nulS_le (p := p) (l := l) (A := A) (m := d) (k := k)
    simp only [nulS]
    by_cases e : leadB l d k = true
    · simp only [e, if_true, nx' (show k < 100000000 by omega)]
    · simp only [e, if_false, Bool.false_eq_true]
      rw [impl_basis_eq _ (by omega)]
      have b1 : ((nulS p l A d k).1 + 1) * 8 ≤ 140737488355328 := by omega
      refine loop_at (n := d) (fun i => nulV p l A k i) rfl (fun q2 i hi => ?_) (fun q2 => ?_) (by omega)
      · simp only [impl_system_spaces.l1, impl_system_spaces.b1]
        have k1 : (i : Int) < (d : Int) := by omega
        have k2 : (0 : Int) ≤ i ∧ (i : Int) < (d : Int) := by omega
        have k3 : (0 : Int) ≤ k ∧ (k : Int) < ((n + 1 : Nat) : Int) := by omega
        have hl8' := hl8 i hi
        have k4 : (0 : Int) ≤ (l i : Int) ∧ (l i : Int) < 8 := by omega
        have ha := hAr i k hi hk
        have w1 : IntKind.i64.wrap (A i k) = A i k := wrap64_id (by omega) (by omega)
        have w2 : IntKind.i64.wrap (0 - A i k) = - A i k := by rw [wrap64_id (by omega) (by omega)]; omega
        simp only [k1, k2, decide_true, if_true, and_self, Int.toNat_natCast, Nat.zero_add, Nat.mul_one, hlen i hi, k3, hl i hi, k4, hA i k hi hk, w1, w2, nx' (show i < 100000000 by omega)]
        rw [impl_mod _ (by rw [hf]; omega) (by rw [hf]; omega), hf]
        rfl
      · simp only [impl_system_spaces.l1, impl_system_spaces.b1, Int.lt_irrefl, decide_false, Bool.false_eq_true, if_false, impl_system_spaces.a1_0, b1, if_true, nx' (show k < 100000000 by omega)]
  · simp only [impl_system_spaces.l0, impl_system_spaces.b0, Int.lt_irrefl, decide_false, Bool.false_eq_true, if_false, impl_system_spaces.a0_0, hf, Nat.zero_add]
def eO (w : Nat) : Nat → Nat → Nat
  | 0 => fun _ => 0
  | i + 1 => upd (eO w i) i (w * i)
def eL (w : Nat) : Nat → Nat → Nat
  | 0 => fun _ => 0
  | i + 1 => upd (eL w i) i w
def eP (w : Nat) (U : Nat → Nat → Int) : Nat → Nat → Int
  | 0 => fun _ => 0
  | i + 1 => joinN (w * i) (eP w U i) (U i)
theorem eq_ok {w : Nat} {U : Nat → Nat → Int} : ∀ i k, k < i → eO w i k = w * k ∧ eL w i k = w ∧ (∀ z, z < w → eP w U i (w * k + z) = U k z)
  | 0, k, h => by omega
  | i + 1, k, h => by
    by_cases e : k = i
    · subst e
      refine ⟨by simp [eO, upd], by simp [eL, upd], fun z hz => ?_⟩
      simp only [eP, joinN]
      rw [if_neg (by omega)]
      congr 1; omega
    · obtain ⟨h1, h2, h3⟩ := eq_ok (w := w) (U := U) i k (by omega)
      refine ⟨by simp only [eO, upd]; rw [if_neg e]; exact h1, by simp only [eL, upd]; rw [if_neg e]; exact h2, fun z hz => ?_⟩
      simp only [eP, joinN]
      have : w * (k + 1) ≤ w * i := Nat.mul_le_mul_left w (by omega)
      rw [Nat.mul_add, Nat.mul_one] at this
      rw [if_pos (by omega)]; exact h3 z hz
def eqU (p : Int) (n : Nat) (E : Nat → Nat → Int) (t : Nat) : Nat → Int := keepN n (fun z => E t z % p)
theorem eqU_in (hp : 0 < p) {E : Nat → Nat → Int} {t : Nat} : inP p (eqU p n E t) := fun z hz => by
  unfold eqU keepN
  split
  · exact ⟨Int.emod_nonneg _ (by omega), Int.emod_lt_of_pos _ (by omega)⟩
  · omega
theorem impl_rows (hp : isP p = true) {f : Nat → Int} (hf : f 0 = p) (hf1 : f 1 = (n : Int)) (hn : n ≤ 8) {M : Nat} (hM : M ≤ 1000) {E : Nat → Nat → Int} {w2 w3 w4 : Nat → Int}
    (hc : ∀ t x, t < M → x < n → ∀ X : Int → Option ρ, impl_CentreOf_c1 6000 X (t : Int) (x : Int) w2 w3 w4 = X (E t x)) (K : Nat → (Nat → Int) → Option ρ) :
    impl_kernel_f 6000 K f (M : Int) w2 w3 w4 = impl_system_solve 6000 (fun rv29 rv30 rv31 rv32 rv33 rv34 rv35 rv36 => impl_system_spaces 6000 (fun rv37 rv38 => K rv37 rv38) (upd (upd (fun _ => 0) 0 p) 1 0) (fun _ => (n : Int)) rv30 rv31 (rv30 * 1) rv32 (offN 0 rv33) (offN 0 rv34) (rv31 * 1) (fun z => rv36 (0 + z)) rv35)
      (upd (upd (fun _ => 0) 0 p) 1 0) (fun _ => (n : Int)) M ((n + 1) * M) (eO (n + 1) M) (eL (n + 1) M) (eP (n + 1) (eqU p n E) M) := by
  have hr := isP_range hp
  have f0 : upd (upd (fun _ => 0) 0 p) 1 0 0 = p := by simp [upd]
  unfold impl_kernel_f impl_kernel_f.s impl_newSystem
  simp only [hf, hf1]
  have main := loop_st (l := fun F (i : Nat) (s : Nat × Nat × (Nat → Nat) × (Nat → Nat) × (Nat → Int)) => impl_kernel_f.l0 6000 K f (M : Int) w2 w3 w4 (upd (upd (fun _ => 0) 0 p) 1 0) (fun _ => (n : Int)) (fun ov24 ov25 ov26 ov27 ov28 => impl_kernel_f.a0_0 6000 K (upd (upd (fun _ => 0) 0 p) 1 0) (fun _ => (n : Int)) ov24 ov25 ov26 ov27 ov28) F (i : Int) s.1 s.2.1 s.2.2.1 s.2.2.2.1 s.2.2.2.2) (n := M)
    (fun i => (i, (n + 1) * i, eO (n + 1) i, eL (n + 1) i, eP (n + 1) (eqU p n E) i)) (out := impl_kernel_f.a0_0 6000 K (upd (upd (fun _ => 0) 0 p) 1 0) (fun _ => (n : Int)) M ((n + 1) * M) (eO (n + 1) M) (eL (n + 1) M) (eP (n + 1) (eqU p n E) M)) (fun q t ht => ?_) (fun q => ?_) M 0 6000 (by omega) (by omega)
  · exact main
  · simp only [impl_kernel_f.l0, impl_kernel_f.b0, hf1]
    have h1 : (t : Int) < (M : Int) := by omega
    have h2 : (0 : Int) ≤ (n : Int) ∧ (n : Int) ≤ (n : Int) ∧ (8 : Int) * (n : Int) ≤ 1099511627776 ∧ (n : Int) ≤ 1099511627776 := ⟨by omega, by omega, by omega, by omega⟩
    simp only [h1, h2, decide_true, if_true, and_self]
    refine loop_at (n := n) (fun x => keepN x (E t)) (by rw [keepN_zero]) (fun q2 x hx => ?_) (fun q2 => ?_) (by omega)
    · simp only [impl_kernel_f.l1, impl_kernel_f.b1, hf1, Int.toNat_natCast]
      have k1 : (x : Int) < (n : Int) := by omega
      have k2 : (0 : Int) ≤ x ∧ (x : Int) < (n : Int) := by omega
      simp only [k1, decide_true, if_true]
      rw [hc t x ht hx]
      simp only [k2, and_self, if_true, Nat.zero_add, Nat.mul_one, nx' (show x < 100000000 by omega), Int.toNat_natCast, keepN_next]
    · simp only [impl_kernel_f.l1, impl_kernel_f.b1, hf1, Int.toNat_natCast, Int.lt_irrefl, decide_false, Bool.false_eq_true, if_false, impl_kernel_f.a1_0, impl_system_add_s_v2, impl_system_add_s_v2.s]
      have w1 := nx' (show n < 100000000 by omega)
      have g1 : (0 : Int) ≤ ((n + 1 : Nat) : Int) ∧ ((n + 1 : Nat) : Int) ≤ ((n + 1 : Nat) : Int) ∧ (1 : Int) * ((n + 1 : Nat) : Int) ≤ 1099511627776 ∧ ((n + 1 : Nat) : Int) ≤ 1099511627776 := ⟨by omega, by omega, by omega, by omega⟩
      simp only [w1, g1, and_self, if_true, Nat.zero_add]
      refine loop_at (n := n) (fun x => keepN x (fun z => E t z % p)) (by rw [keepN_zero]) (fun q3 x hx => ?_) (fun q3 => ?_) (by omega)
      · simp only [impl_system_add_s_v2.l0, impl_system_add_s_v2.b0, w1, Int.toNat_natCast]
        have k1 : (x : Int) < (n : Int) := by omega
        have k2 : (0 : Int) ≤ x ∧ (x : Int) < (n : Int) := by omega
        have k3 : (0 : Int) ≤ x ∧ (x : Int) < ((n + 1 : Nat) : Int) := by omega
        simp only [k1, k2, k3, decide_true, if_true, and_self, Nat.zero_add, Nat.mul_one, Int.toNat_natCast, keepN_at hx, nx' (show x < 100000000 by omega)]
        rw [impl_mod _ (by rw [f0]; omega) (by rw [f0]; omega), f0]
        exact congrArg _ (keepN_next (n := x) (a := fun z => E t z % p))
      · simp only [impl_system_add_s_v2.l0, impl_system_add_s_v2.b0, Int.lt_irrefl, decide_false, Bool.false_eq_true, if_false, impl_system_add_s_v2.a0_0, w1, Int.toNat_natCast]
        rw [impl_mod _ (by rw [f0]; omega) (by rw [f0]; omega), f0]
        have k3 : (0 : Int) ≤ n ∧ (n : Int) < ((n + 1 : Nat) : Int) := by omega
        have b1 : (t + 1) * 24 ≤ 140737488355328 := by omega
        have e0 : upd (keepN n fun z => E t z % p) (0 + n * 1) (0 % p) = eqU p n E t := by
          funext z
          unfold eqU upd keepN
          by_cases h : z = 0 + n * 1
          · rw [if_pos h, if_neg (by omega)]; simp
          · rw [if_neg h]
        have e9 : (n + 1) * t + (n + 1) = (n + 1) * (t + 1) := by rw [Nat.mul_add, Nat.mul_one]
        simp only [k3, and_self, b1, if_true, nx' (show t < 100000000 by omega), e0, e9]
        rfl
  · simp only [impl_kernel_f.l0, impl_kernel_f.b0, Int.lt_irrefl, decide_false, Bool.false_eq_true, if_false]
theorem impl_kernel (hp : isP p = true) {f : Nat → Int} (hf : f 0 = p) (hf1 : f 1 = (n : Int)) (hn : n ≤ 8) {M : Nat} (hM : M ≤ 1000) {E : Nat → Nat → Int} {w2 w3 w4 : Nat → Int}
    (hc : ∀ t x, t < M → x < n → ∀ X : Int → Option ρ, impl_CentreOf_c1 6000 X (t : Int) (x : Int) w2 w3 w4 = X (E t x)) {l : Nat → Nat} {R : Nat × (Nat → Int)} (hR : RedG p R.1 R.2 l) (s1 : Sub p 8 (Rw R.1 (rw8 R.2)) (Rw M (eqU p n E))) (s2 : Sub p 8 (Rw M (eqU p n E)) (Rw R.1 (rw8 R.2))) :
    (∀ k, k < R.1 → l k < n) ∧ ∃ g' : Nat → Int, (∀ K : Nat → (Nat → Int) → Option ρ, impl_kernel_f 6000 K f (M : Int) w2 w3 w4 = K (redM p (nulS p l (rw8 R.2) R.1 n).2 (nulS p l (rw8 R.2) R.1 n).1).1 g') ∧
      ∀ z, z < (redM p (nulS p l (rw8 R.2) R.1 n).2 (nulS p l (rw8 R.2) R.1 n).1).1 * 8 → g' z = (redM p (nulS p l (rw8 R.2) R.1 n).2 (nulS p l (rw8 R.2) R.1 n).1).2 z := by
  have hr := isP_range hp
  have hm := hR.red.many
  have hl8 : ∀ k, k < R.1 → l k < n := fun k hk => by
    apply Classical.byContradiction
    intro h
    have h8 := hR.red.inn k hk
    have hz : p ∣ rw8 R.2 k (l k) := (s1 _ ⟨k, hk, rfl⟩).zer h8 (fun r hr => by
      obtain ⟨t, ht, rfl⟩ := hr
      unfold eqU keepN
      rw [if_neg (by omega)]; exact Int.dvd_zero _)
    exact not_dvd_one (by omega) (hR.red.one k hk) hz
  refine ⟨hl8, ?_⟩
  have T : Tbl p M (n + 1) (eO (n + 1) M) (eL (n + 1) M) (eP (n + 1) (eqU p n E) M) := by
    refine ⟨fun k hk => (eq_ok (U := eqU p n E) M k hk).2.1, fun j k hj hk hne y z hy hz => ?_, fun k z hk hz => ?_⟩
    · rw [(eq_ok (U := eqU p n E) M j hj).1, (eq_ok (U := eqU p n E) M k hk).1]
      intro e
      rcases Nat.lt_or_gt_of_ne hne with h | h
      · have := Nat.mul_le_mul_left (n + 1) (show j + 1 ≤ k by omega)
        rw [Nat.mul_add, Nat.mul_one] at this; omega
      · have := Nat.mul_le_mul_left (n + 1) (show k + 1 ≤ j by omega)
        rw [Nat.mul_add, Nat.mul_one] at this; omega
    · obtain ⟨h1, h2, h3⟩ := eq_ok (w := n + 1) (U := eqU p n E) M k hk
      rw [h1, h3 z hz]
      unfold eqU keepN
      split
      · exact ⟨Int.emod_nonneg _ (by omega), Int.emod_lt_of_pos _ (by omega)⟩
      · omega
  have hz : ∀ k, k < M → p ∣ eP (n + 1) (eqU p n E) M (eO (n + 1) M k + n) := fun k hk => by
    obtain ⟨h1, h2, h3⟩ := eq_ok (w := n + 1) (U := eqU p n E) M k hk
    rw [h1, h3 n (by omega)]
    unfold eqU keepN
    rw [if_neg (by omega)]; exact Int.dvd_zero _
  obtain ⟨d, of', ln', pool', pls', plf', r1, r2, r3, r4, r5, r6, r7⟩ := impl_solve (ρ := ρ) (N := M) (q := (n + 1) * M) hp (f := upd (upd (fun _ => 0) 0 p) 1 0) (by simp [upd]) (mn := n) hn hM T hz
  have cg : ∀ k, k < M → Cg p n (eqU p n E k) (rowO (eO (n + 1) M) (eP (n + 1) (eqU p n E) M) k) := fun k hk => Cg.of_eq fun i hi => by
    obtain ⟨h1, h2, h3⟩ := eq_ok (w := n + 1) (U := eqU p n E) M k hk
    unfold rowO
    rw [h1, h3 i (by omega)]
  have sA : Sub p n (Rw M (eqU p n E)) (Rw M (rowO (eO (n + 1) M) (eP (n + 1) (eqU p n E) M))) := by
    rintro r ⟨k, hk, rfl⟩; exact (Sp.of ⟨k, hk, rfl⟩).cg (cg k hk)
  have sB : Sub p n (Rw M (rowO (eO (n + 1) M) (eP (n + 1) (eqU p n E) M))) (Rw M (eqU p n E)) := by
    rintro r ⟨k, hk, rfl⟩; exact (Sp.of ⟨k, hk, rfl⟩).cg (cg k hk).symm
  have q1 := ((s1.down (n := n) hn).trans sA).trans r6
  have q2 := (r5.trans sB).trans (s2.down (n := n) hn)
  obtain ⟨e, s⟩ := (hR.red.down hl8).same (by omega) r4 (fun k hk => q1 _ ⟨k, hk, rfl⟩) (fun k hk => q2 _ ⟨k, hk, rfl⟩)
  subst e
  have hA : ∀ i z, i < R.1 → z < n → pool' (of' i + z) = rw8 R.2 i z := fun i z hi hz => by
    exact ((s i hi).2.eq_of (fun y hy => hR.ent i hi y (by omega)) (fun y hy => r3.ent i y (by omega) (by omega)) z hz).symm
  obtain ⟨g', w1, w2⟩ := reduced_same (ρ := ρ) (a := (nulS p l (rw8 R.2) R.1 n).1 * 8) (b := 0) hp (N := (nulS p l (rw8 R.2) R.1 n).1) (L := (nulS p l (rw8 R.2) R.1 n).2) (L' := (nulS p l (rw8 R.2) R.1 n).2) (by have := nulS_le (p := p) (l := l) (A := rw8 R.2) (m := R.1) (k := n); omega) (nulS_in (by omega)) (fun z _ => rfl)
  refine ⟨g', fun K => ?_, w2⟩
  rw [impl_rows hp hf hf1 hn hM hc, r2]
  simp only [offN_zero', Nat.zero_add]
  rw [impl_spaces hp (by simp [upd]) hn (by omega) (l := l) (A := rw8 R.2) (fun i hi => by rw [r7 i hi, (s i hi).1]) (fun i hi => by have := hl8 i hi; omega) (fun i hi => r3.len i (by omega)) hA (fun i z hi hz => hR.ent i hi z (by omega))]
  exact w1 _
end
end Go.Proofs.Ytmjpfchbkolcbaa.H
namespace Go.Proofs.Ytmjpfchbkolcbaa.H
open Go Go.RowKit Go.Proofs.Ytmjpfchbkolcbaa.Hy
set_option linter.unusedVariables false
set_option linter.unusedSimpArgs false
set_option maxRecDepth 100000
section
variable {p : Int} {n : Nat}
def dotN (n : Nat) (u v : Nat → Int) : Int := sumN (fun z => u z * v z) n
def phi (F : Nat → Nat → Int) (n : Nat) (v : Nat → Int) : Nat → Int := fun z => sumN (fun k => v k * F k z) n
theorem dvd_sum {f g : Nat → Int} {m : Nat} (h : ∀ k, k < m → p ∣ f k - g k) : p ∣ sumN f m - sumN g m := by rw [sumN_sub]; exact sumN_dvd h
theorem dvd_to {a b : Int} (h : p ∣ a - b) (hb : p ∣ b) : p ∣ a := dvd_of_eq (Int.dvd_add h hb) (by omega)
theorem sumN_neg {f : Nat → Int} : ∀ {m : Nat}, sumN (fun k => - f k) m = - sumN f m
  | 0 => rfl
  | m + 1 => by simp only [sumN]; rw [sumN_neg (m := m)]; omega
theorem mod_dvd {x : Int} : p ∣ x % p - x := Cg.mod (p := p) (n := 1) (v := fun _ => x) 0 (by omega)
theorem Sp.dot {N : Nat} {G : (Nat → Int) → Prop} {v : Nat → Int} (hN : n ≤ N) (hG : ∀ r, G r → p ∣ dotN n r v) {w : Nat → Int} (h : Sp p N G w) : p ∣ dotN n w v := by
  induction h with
  | zero h => exact sumN_dvd fun k hk => Int.dvd_mul_of_dvd_left (by have := h k (by omega); simpa using this)
  | @add u w r a hv hr h ih =>
    have e : p ∣ dotN n w v - (dotN n u v + a * dotN n r v) := by
      unfold dotN
      rw [sumN_mul, sumN_add]
      refine dvd_sum fun k hk => ?_
      have := Int.dvd_mul_of_dvd_left (c := v k) (h k (by omega))
      exact dvd_of_eq this (by simp only [Int.sub_mul, Int.add_mul, Int.mul_assoc])
    exact dvd_to e (Int.dvd_add ih (Int.dvd_mul_of_dvd_right (hG r hr)))
theorem Sp.map {F : Nat → Nat → Int} {G H : (Nat → Int) → Prop} (hn : n ≤ 8) (hG : ∀ r, G r → Sp p 8 H (phi F n r)) {v : Nat → Int} (h : Sp p 8 G v) : Sp p 8 H (phi F n v) := by
  induction h with
  | zero h =>
    refine .zero fun z hz => ?_
    rw [Int.sub_zero]
    exact sumN_dvd fun k hk => Int.dvd_mul_of_dvd_left (by have := h k (by omega); simpa using this)
  | @add u w r a hv hr h ih =>
    refine (ih.plus ((hG r hr).times a)).cg fun z hz => ?_
    show p ∣ phi F n w z - (phi F n u z + a * phi F n r z)
    unfold phi
    rw [sumN_mul, sumN_add]
    refine dvd_sum fun k hk => ?_
    have := Int.dvd_mul_of_dvd_left (c := F k z) (h k (by omega))
    exact dvd_of_eq this (by simp only [Int.sub_mul, Int.add_mul, Int.mul_assoc])
theorem phi_cg {F : Nat → Nat → Int} (hn : n ≤ 8) {v w : Nat → Int} (h : Cg p 8 v w) : Cg p 8 (phi F n v) (phi F n w) := fun z _ => by
  unfold phi
  refine dvd_sum fun k hk => ?_
  exact dvd_of_eq (Int.dvd_mul_of_dvd_left (c := F k z) (h k (by omega))) (by rw [Int.sub_mul])
theorem phi_lin {F : Nat → Nat → Int} {v w : Nat → Int} {a : Int} : phi F n (fun i => v i + a * w i) = fun z => phi F n v z + a * phi F n w z := by
  funext z
  unfold phi
  rw [sumN_mul, sumN_add]
  exact sumN_congr fun k _ => by simp only [Int.add_mul, Int.mul_assoc]
theorem Sp.coef {N m : Nat} {S : Nat → Nat → Int} {v : Nat → Int} (h : Sp p N (Rw m S) v) : ∃ a : Nat → Int, Cg p N v (fun i => sumN (fun k => a k * S k i) m) := by
  induction h with
  | zero h => exact ⟨fun _ => 0, h.trans (Cg.of_eq fun i _ => by simp only [Int.zero_mul, sumN_zero])⟩
  | @add u w r a hv hr h ih =>
    obtain ⟨b, hb⟩ := ih
    obtain ⟨j, hj, rfl⟩ := hr
    refine ⟨fun k => b k + (if k = j then a else 0), h.trans ((hb.add (Cg.refl (v := fun i => a * S j i))).trans (Cg.of_eq fun i _ => ?_))⟩
    have : a * S j i = sumN (fun k => (if k = j then a else 0) * S k i) m := by
      rw [sumN_one (i := j) hj (fun k _ hne => by rw [if_neg hne, Int.zero_mul]), if_pos rfl]
    simp only
    rw [this, sumN_add]
    exact sumN_congr fun k _ => by rw [Int.add_mul]
theorem Sp.split {N : Nat} {G H : (Nat → Int) → Prop} {v : Nat → Int} (h : Sp p N (fun r => G r ∨ H r) v) : ∃ s t, Sp p N G s ∧ Sp p N H t ∧ Cg p N v (fun i => s i + t i) := by
  induction h with
  | zero h => exact ⟨fun _ => 0, fun _ => 0, .zero .refl, .zero .refl, h.trans (Cg.of_eq fun i _ => rfl)⟩
  | @add u w r a hv hr h ih =>
    obtain ⟨s, t, h1, h2, h3⟩ := ih
    rcases hr with hr | hr
    · refine ⟨fun i => s i + a * r i, t, .add a h1 hr .refl, h2, h.trans ((h3.add (Cg.refl (v := fun i => a * r i))).trans (Cg.of_eq fun i _ => ?_))⟩
      simp only; omega
    · refine ⟨s, fun i => t i + a * r i, h1, .add a h2 hr .refl, h.trans ((h3.add (Cg.refl (v := fun i => a * r i))).trans (Cg.of_eq fun i _ => ?_))⟩
      simp only; omega
theorem tri_zero {m : Nat} {I : Nat → Nat → Int} {L : Nat → Nat} (one : ∀ k, k < m → p ∣ I k (L k) - 1) (low : ∀ j k, j < k → k < m → p ∣ I k (L j)) {a : Nat → Int} (hL : ∀ k, k < m → p ∣ sumN (fun j => a j * I j (L k)) m) (k : Nat) : k < m → p ∣ a k := by
  induction k using Nat.strongRecOn with
  | ind k ih =>
    intro hk
    have h : p ∣ sumN (fun j => a j * I j (L k)) m - sumN (fun j => if j = k then a k else 0) m := dvd_sum fun j hj => by
      by_cases e : j = k
      · subst e
        rw [if_pos rfl]
        exact dvd_of_eq (Int.dvd_mul_of_dvd_right (b := a j) (one j hj)) (by rw [Int.mul_sub, Int.mul_one])
      · rw [if_neg e, Int.sub_zero]
        by_cases g : j < k
        · exact Int.dvd_mul_of_dvd_left (ih j g hj)
        · exact Int.dvd_mul_of_dvd_right (low k j (by omega) hj)
    rw [sumN_one (f := fun j => if j = k then a k else 0) (i := k) hk (fun j _ hne => by rw [if_neg hne]), if_pos rfl] at h
    have := Int.dvd_sub (hL k hk) h
    exact dvd_of_eq this (by omega)
theorem nulV_off {l : Nat → Nat} {A : Nat → Nat → Int} {k z : Nat} : ∀ {i : Nat}, (∀ j, j < i → l j ≠ z) → nulV p l A k i z = if z = k then 1 else 0
  | 0, _ => by simp only [nulV, upd]
  | i + 1, h => by
    simp only [nulV, upd]
    rw [if_neg (fun e => h i (by omega) e.symm)]
    exact nulV_off fun j hj => h j (by omega)
theorem nulV_on {l : Nat → Nat} {A : Nat → Nat → Int} {k j : Nat} : ∀ {i : Nat}, (∀ a b, a < i → b < i → l a = l b → a = b) → j < i → nulV p l A k i (l j) = (- A j k) % p
  | 0, _, h => by omega
  | i + 1, hi, h => by
    simp only [nulV, upd]
    by_cases e : l j = l i
    · rw [if_pos e, hi j i h (by omega) e]
    · rw [if_neg e]
      have hne : j ≠ i := fun q => e (by rw [q])
      exact nulV_on (fun a b ha hb => hi a b (by omega) (by omega)) (by omega)
theorem lead_no {l : Nat → Nat} {m k : Nat} (h : ¬ leadB l m k = true) {j : Nat} (hj : j < m) : l j ≠ k := fun e => h (leadB_iff.2 ⟨j, hj, e⟩)
variable {m : Nat} {R : Nat → Nat → Int} {l : Nat → Nat}
theorem nul_in (hR : Red p n m R l) {k : Nat} (hk : k < n) (hl : ¬ leadB l m k = true) {i : Nat} (hi : i < m) : p ∣ dotN n (R i) (nulV p l R k m) := by
  have inj := fun a b (ha : a < m) (hb : b < m) (e : l a = l b) => hR.inj ha hb e
  have h : p ∣ dotN n (R i) (nulV p l R k m) - sumN (fun z => (if z = k then R i k else 0) + (if z = l i then - R i k else 0)) n := by
    refine dvd_sum fun z hz => ?_
    by_cases ek : z = k
    · subst ek
      rw [nulV_off fun j hj => lead_no hl hj, if_pos rfl, if_pos rfl, if_neg (fun e => lead_no hl hi e.symm)]
      exact ⟨0, by omega⟩
    · rw [if_neg ek]
      by_cases hz' : leadB l m z = true
      · obtain ⟨j, hj, rfl⟩ := leadB_iff.1 hz'
        rw [nulV_on inj hj]
        by_cases e : j = i
        · subst e
          rw [if_pos rfl]
          have h1 := Int.dvd_mul_of_dvd_left (c := (- R j k) % p) (hR.one j hj)
          have h2 := mod_dvd (p := p) (x := - R j k)
          exact dvd_of_eq (Int.dvd_add h1 h2) (by rw [Int.sub_mul, Int.one_mul]; omega)
        · rw [if_neg (fun q => e (inj j i hj hi q))]
          exact dvd_of_eq (Int.dvd_mul_of_dvd_left (c := (- R j k) % p) (hR.oth j i hj hi e)) (by omega)
      · rw [nulV_off fun j hj => lead_no hz' hj, if_neg ek, if_neg (fun e => hz' (leadB_iff.2 ⟨i, hi, e.symm⟩))]
        exact ⟨0, by omega⟩
  refine dvd_to h ?_
  rw [← sumN_add, sumN_one (f := fun z => if z = k then R i k else 0) (i := k) hk (fun j _ hne => by rw [if_neg hne]), sumN_one (f := fun z => if z = l i then - R i k else 0) (i := l i) (hR.inn i hi) (fun j _ hne => by rw [if_neg hne]), if_pos rfl, if_pos rfl]
  exact ⟨0, by omega⟩
def Fr (p : Int) (l : Nat → Nat) (A : Nat → Nat → Int) (m n : Nat) : (Nat → Int) → Prop := fun r => ∃ k, k < n ∧ leadB l m k = false ∧ r = nulV p l A k m
theorem nul_all (hR : Red p n m R l) (hn : n ≤ 8) {v : Nat → Int} (hv : ∀ z, n ≤ z → z < 8 → p ∣ v z) (h : ∀ i, i < m → p ∣ dotN n (R i) v) : Sp p 8 (Fr p l R m n) v := by
  have inj := fun a b (ha : a < m) (hb : b < m) (e : l a = l b) => hR.inj ha hb e
  have hs : Sp p 8 (Fr p l R m n) (fun i => sumN (fun k => v k * (if leadB l m k = true then (fun _ => 0) else nulV p l R k m) i) n) := Sp.sum (f := fun k => if leadB l m k = true then (fun _ => 0) else nulV p l R k m) fun k hk => by
    by_cases e : leadB l m k = true
    · simp only [if_pos e]; exact .zero Cg.refl
    · simp only [if_neg e]; exact .of ⟨k, hk, by simpa using e, rfl⟩
  refine hs.cg fun i hi => ?_
  show p ∣ v i - sumN (fun k => v k * (if leadB l m k = true then (fun _ => 0) else nulV p l R k m) i) n
  by_cases hin : n ≤ i
  · have e0 : sumN (fun k => v k * (if leadB l m k = true then (fun _ => 0) else nulV p l R k m) i) n = 0 := by
      refine (sumN_congr (g := fun _ => 0) fun k hk => ?_).trans sumN_zero
      by_cases e : leadB l m k = true
      · rw [if_pos e, Int.mul_zero]
      · rw [if_neg e, nulV_off (fun j hj => by have := hR.inn j hj; omega), if_neg (by omega), Int.mul_zero]
    rw [e0, Int.sub_zero]; exact hv i hin hi
  · by_cases hl : leadB l m i = true
    · obtain ⟨j, hj, rfl⟩ := leadB_iff.1 hl
      have h1 : p ∣ sumN (fun k => v k * (if leadB l m k = true then (fun _ => 0) else nulV p l R k m) (l j)) n - sumN (fun k => -(R j k * v k) + (if k = l j then v (l j) else 0)) n := dvd_sum fun k hk => by
        by_cases e : leadB l m k = true
        · rw [if_pos e]
          obtain ⟨j', hj', rfl⟩ := leadB_iff.1 e
          by_cases ej : j' = j
          · subst ej
            rw [if_pos rfl]
            exact dvd_of_eq (Int.dvd_mul_of_dvd_left (c := v (l j')) (hR.one j' hj')) (by rw [Int.sub_mul, Int.one_mul, Int.mul_zero]; omega)
          · rw [if_neg (fun q => ej (inj j' j hj' hj q))]
            exact dvd_of_eq (Int.dvd_mul_of_dvd_left (c := v (l j')) (hR.oth j' j hj' hj ej)) (by rw [Int.mul_zero]; omega)
        · rw [if_neg e, if_neg (show ¬ k = l j from fun q => e (by rw [q]; exact hl)), nulV_on inj hj]
          exact dvd_of_eq (Int.dvd_mul_of_dvd_right (b := v k) (mod_dvd (p := p) (x := - R j k))) (by rw [Int.mul_sub, Int.mul_neg, Int.mul_comm (v k) (R j k)]; omega)
      rw [← sumN_add, sumN_one (f := fun k => if k = l j then v (l j) else 0) (i := l j) (by omega) (fun k _ hne => by rw [if_neg hne]), if_pos rfl, sumN_neg] at h1
      have h2 := Int.dvd_sub (h j hj) h1
      unfold dotN at h2
      exact dvd_of_eq h2 (by omega)
    · have e0 : sumN (fun k => v k * (if leadB l m k = true then (fun _ => 0) else nulV p l R k m) i) n = v i := by
        rw [sumN_one (i := i) (by omega) (fun k hk hne => ?_), if_neg hl, nulV_off (fun j hj => lead_no hl hj), if_pos rfl, Int.mul_one]
        by_cases e : leadB l m k = true
        · rw [if_pos e, Int.mul_zero]
        · rw [if_neg e, nulV_off (fun j hj => lead_no hl hj), if_neg (fun q => hne q.symm), Int.mul_zero]
      rw [e0]; exact ⟨0, by omega⟩
theorem join_sub {N : Nat} {g w : Nat → Int} : Sub p 8 (Rw (N + 1) (rw8 (joinN (N * 8) g w))) (Un (Rw N (rw8 g)) w) := by
  rintro r ⟨k, hk, rfl⟩
  by_cases e : k = N
  · subst e; exact (Sp.of (.inr rfl)).cg (Cg.of_eq fun i hi => rw8_eq)
  · exact (Sp.of (.inl ⟨k, by omega, rfl⟩)).cg (Cg.of_eq fun i hi => rw8_lt (by omega) hi)
theorem sub_join {N : Nat} {g w : Nat → Int} : Sub p 8 (Un (Rw N (rw8 g)) w) (Rw (N + 1) (rw8 (joinN (N * 8) g w))) := by
  rintro r (⟨k, hk, rfl⟩ | rfl)
  · exact (Sp.of ⟨k, by omega, rfl⟩).cg (Cg.of_eq fun i hi => (rw8_lt hk hi).symm)
  · exact (Sp.of ⟨N, by omega, rfl⟩).cg (Cg.of_eq fun i hi => rw8_eq.symm)
theorem nulS_sub {A : Nat → Nat → Int} : ∀ k, Sub p 8 (Rw (nulS p l A m k).1 (rw8 (nulS p l A m k).2)) (Fr p l A m k) ∧ Sub p 8 (Fr p l A m k) (Rw (nulS p l A m k).1 (rw8 (nulS p l A m k).2))
  | 0 => ⟨by rintro r ⟨k, hk, _⟩; simp [nulS] at hk, by rintro r ⟨k, hk, _⟩; omega⟩
  | k + 1 => by
    obtain ⟨h1, h2⟩ := nulS_sub (A := A) k
    have mono : Sub p 8 (Fr p l A m k) (Fr p l A m (k + 1)) := by
      rintro r ⟨j, hj, e⟩; exact .of ⟨j, by omega, e⟩
    simp only [nulS]
    by_cases e : leadB l m k = true
    · rw [if_pos e]
      refine ⟨h1.trans mono, ?_⟩
      rintro r ⟨j, hj, e1, rfl⟩
      by_cases ej : j = k
      · subst ej; rw [e] at e1; cases e1
      · exact h2 _ ⟨j, by omega, e1, rfl⟩
    · rw [if_neg e]
      refine ⟨join_sub.trans (Sub.un (h1.trans mono) (.of ⟨k, by omega, by simpa using e, rfl⟩)), Sub.trans ?_ sub_join⟩
      rintro r ⟨j, hj, e1, rfl⟩
      by_cases ej : j = k
      · subst ej; exact .of (.inr rfl)
      · exact (h2 _ ⟨j, by omega, e1, rfl⟩).mono Sub.left
theorem nulS_span (hR : Red p n m R l) (hn : n ≤ 8) {v : Nat → Int} : Sp p 8 (Rw (nulS p l R m n).1 (rw8 (nulS p l R m n).2)) v ↔ (∀ z, n ≤ z → z < 8 → p ∣ v z) ∧ ∀ i, i < m → p ∣ dotN n (R i) v := by
  obtain ⟨h1, h2⟩ := nulS_sub (p := p) (l := l) (m := m) (A := R) n
  constructor
  · intro h
    have h' := h.mono h1
    have hz : ∀ z, n ≤ z → z < 8 → p ∣ v z := fun z hz1 hz2 => h'.zer hz2 (fun r hr => by
      obtain ⟨k, hk, e, rfl⟩ := hr
      rw [nulV_off (fun j hj => by have := hR.inn j hj; omega), if_neg (by omega)]; exact Int.dvd_zero _)
    refine ⟨hz, fun i hi => ?_⟩
    have : ∀ {w : Nat → Int}, Sp p 8 (Fr p l R m n) w → p ∣ dotN n (R i) w := by
      intro w hw
      induction hw with
      | zero h => exact sumN_dvd fun k hk => Int.dvd_mul_of_dvd_right (by have := h k (by omega); simpa using this)
      | @add u w r a hv hr h ih =>
        have hr' : p ∣ dotN n (R i) r := by
          obtain ⟨k, hk, e, rfl⟩ := hr
          exact nul_in hR hk (by rw [e]; simp) hi
        have e : p ∣ dotN n (R i) w - (dotN n (R i) u + a * dotN n (R i) r) := by
          unfold dotN
          rw [sumN_mul, sumN_add]
          refine dvd_sum fun k hk => ?_
          have := Int.dvd_mul_of_dvd_right (b := R i k) (h k (by omega))
          exact dvd_of_eq this (by simp only [Int.mul_sub, Int.mul_add]; rw [Int.mul_left_comm])
        exact dvd_to e (Int.dvd_add ih (Int.dvd_mul_of_dvd_right hr'))
    exact this h'
  · rintro ⟨hz, h⟩
    exact (nul_all hR hn hz h).mono h2
end
end Go.Proofs.Ytmjpfchbkolcbaa.H
namespace Go.Proofs.Ytmjpfchbkolcbaa.H
open Go Go.RowKit Go.Proofs.Ytmjpfchbkolcbaa.Hy
set_option linter.unusedVariables false
set_option linter.unusedSimpArgs false
set_option maxRecDepth 100000
section
variable {p : Int} {n : Nat}
structure Sol where
  m : Nat
  ke : Nat
  gi : Nat → Int
  gs : Nat → Int
  gk : Nat → Int
def slv (p : Int) (gi gs u w : Nat → Int) : Nat → (Nat → Int) × (Nat → Int)
  | 0 => (u, w)
  | k + 1 => if (slv p gi gs u w k).1 (first8 (rw8 gi k)) = 0 then slv p gi gs u w k
      else (addV p (slv p gi gs u w k).1 (rw8 gi k) (-((slv p gi gs u w k).1 (first8 (rw8 gi k)))), addV p (slv p gi gs u w k).2 (rw8 gs k) (-((slv p gi gs u w k).1 (first8 (rw8 gi k)))))
def solR (p : Int) (s : Sol) (r : (Nat → Int) × (Nat → Int)) : Sol :=
  if eqN 8 r.1 (fun _ => 0) = true then ⟨s.m, s.ke + 1, s.gi, s.gs, joinN (s.ke * 8) s.gk r.2⟩
  else ⟨s.m + 1, s.ke, joinN (s.m * 8) s.gi (addV p (fun _ => 0) r.1 (invN p (r.1 (first8 r.1)))), joinN (s.m * 8) s.gs (addV p (fun _ => 0) r.2 (invN p (r.1 (first8 r.1)))), s.gk⟩
def solS (p : Int) (F : Nat → Nat → Int) : Nat → Sol
  | 0 => ⟨0, 0, fun _ => 0, fun _ => 0, fun _ => 0⟩
  | i + 1 => solR p (solS p F i) (slv p (solS p F i).gi (solS p F i).gs (F i) (upd (fun _ => 0) i 1) (solS p F i).m)
structure Tri (p : Int) (n : Nat) (F : Nat → Nat → Int) (m : Nat) (gi gs : Nat → Int) : Prop where
  iin : ∀ k, k < m → inP p (rw8 gi k)
  sin : ∀ k, k < m → inP p (rw8 gs k)
  l8 : ∀ k, k < m → first8 (rw8 gi k) < 8
  one : ∀ k, k < m → p ∣ rw8 gi k (first8 (rw8 gi k)) - 1
  low : ∀ j k, j < k → k < m → p ∣ rw8 gi k (first8 (rw8 gi j))
  ph : ∀ k, k < m → Cg p 8 (phi F n (rw8 gs k)) (rw8 gi k)
variable {F : Nat → Nat → Int} {m i : Nat} {gi gs : Nat → Int}
theorem phi_mul {w : Nat → Int} {a : Int} : phi F n (fun i => a * w i) = fun z => a * phi F n w z := by
  funext z
  unfold phi
  rw [sumN_mul]
  exact sumN_congr fun k _ => by rw [Int.mul_assoc]
theorem slv_ok (hp : 1 < p) (hn : n ≤ 8) (t : Tri p n F m gi gs) {u w : Nat → Int} (hu : inP p u) (hw : inP p w) (hf : Cg p 8 (phi F n w) u) : ∀ k, k ≤ m →
    inP p (slv p gi gs u w k).1 ∧ inP p (slv p gi gs u w k).2 ∧ (∃ s, Sp p 8 (Rw m (rw8 gs)) s ∧ Cg p 8 (slv p gi gs u w k).2 (fun i => w i + s i)) ∧ Cg p 8 (phi F n (slv p gi gs u w k).2) (slv p gi gs u w k).1 ∧ ∀ j, j < k → p ∣ (slv p gi gs u w k).1 (first8 (rw8 gi j))
  | 0, _ => ⟨hu, hw, ⟨fun _ => 0, .zero .refl, Cg.of_eq fun i _ => by simp only [slv]; omega⟩, hf, fun j hj => by omega⟩
  | k + 1, hk => by
    obtain ⟨h1, h2, ⟨s, s1, s2⟩, h4, h5⟩ := slv_ok hp hn t hu hw hf k (by omega)
    simp only [slv]
    generalize slv p gi gs u w k = r at h1 h2 s2 h4 h5
    by_cases e : r.1 (first8 (rw8 gi k)) = 0
    · rw [if_pos e]
      refine ⟨h1, h2, ⟨s, s1, s2⟩, h4, fun j hj => ?_⟩
      by_cases ej : j = k
      · subst ej; rw [e]; exact Int.dvd_zero _
      · exact h5 j (by omega)
    · rw [if_neg e]
      refine ⟨addV_in (by omega), addV_in (by omega), ⟨fun i => s i + (-(r.1 (first8 (rw8 gi k)))) * rw8 gs k i, .add _ s1 ⟨k, by omega, rfl⟩ .refl, addV_cg.trans ((s2.add .refl).trans (Cg.of_eq fun i _ => ?_))⟩, ?_, fun j hj => ?_⟩
      · simp only; omega
      · have e1 := phi_cg (F := F) hn (addV_cg (p := p) (v := r.2) (w := rw8 gs k) (k := -(r.1 (first8 (rw8 gi k)))))
        rw [phi_lin] at e1
        exact (e1.trans (h4.add ((t.ph k (by omega)).mul (-(r.1 (first8 (rw8 gi k))))))).trans addV_cg.symm
      · have e1 := addV_cg (p := p) (v := r.1) (w := rw8 gi k) (k := -(r.1 (first8 (rw8 gi k)))) _ (t.l8 j (by omega))
        refine dvd_to e1 ?_
        by_cases ej : j = k
        · subst ej
          exact dvd_of_eq (Int.dvd_mul_of_dvd_right (b := -(r.1 (first8 (rw8 gi j)))) (t.one j (by omega))) (by simp only; rw [Int.mul_sub, Int.mul_one]; omega)
        · exact Int.dvd_add (h5 j (by omega)) (Int.dvd_mul_of_dvd_right (t.low j k (by omega) (by omega)))
def EB (i : Nat) : (Nat → Int) → Prop := fun r => ∃ k, k < i ∧ r = upd (fun _ => 0) k 1
def QQ (s : Sol) : (Nat → Int) → Prop := fun r => Rw s.m (rw8 s.gs) r ∨ Rw s.ke (rw8 s.gk) r
structure SolI (p : Int) (n : Nat) (F : Nat → Nat → Int) (i : Nat) (s : Sol) : Prop where
  le : s.m + s.ke ≤ i
  tri : Tri p n F s.m s.gi s.gs
  kin : ∀ k, k < s.ke → inP p (rw8 s.gk k)
  pk : ∀ k, k < s.ke → Cg p 8 (phi F n (rw8 s.gk k)) (fun _ => 0)
  s1 : Sub p 8 (QQ s) (EB i)
  s2 : Sub p 8 (EB i) (QQ s)
theorem seekN_congr {g h : Nat → Bool} : ∀ {k i : Nat}, (∀ j, i ≤ j → j < i + k → g j = h j) → seekN g i k = seekN h i k
  | 0, i, _ => rfl
  | k + 1, i, e => by
    simp only [seekN]
    rw [e i (by omega) (by omega), seekN_congr (k := k) (i := i + 1) fun j h1 h2 => e j (by omega) (by omega)]
theorem first8_congr {v w : Nat → Int} (h : ∀ z, z < 8 → v z = w z) : first8 v = first8 w := by
  unfold first8
  exact seekN_congr fun j _ hj => by rw [h j (by omega)]
theorem phi_basis (hi : i < n) : Cg p 8 (phi F n (upd (fun _ => 0) i 1)) (F i) := Cg.of_eq fun z _ => by
  unfold phi
  rw [sumN_one (i := i) hi (fun j _ hne => by simp only [upd]; rw [if_neg hne, Int.zero_mul])]
  simp only [upd, if_true, Int.one_mul]
theorem solR_ok (hp : isP p = true) (hn : n ≤ 8) {s : Sol} (h : SolI p n F i s) (hi : i < n) (hF : inP p (F i)) : SolI p n F (i + 1) (solR p s (slv p s.gi s.gs (F i) (upd (fun _ => 0) i 1) s.m)) := by
  have hr := isP_range hp
  have hb : inP p (upd (fun _ => 0) i 1) := fun z _ => by simp only [upd]; split <;> omega
  obtain ⟨a1, a2, ⟨t, t1, t2⟩, a4, a5⟩ := slv_ok (by omega) hn h.tri hF hb (phi_basis hi) s.m (Nat.le_refl _)
  generalize slv p s.gi s.gs (F i) (upd (fun _ => 0) i 1) s.m = r at a1 a2 t2 a4 a5
  have monoE : Sub p 8 (EB i) (EB (i + 1)) := by
    rintro r ⟨k, hk, e⟩; exact .of ⟨k, by omega, e⟩
  have tE : Sp p 8 (EB i) t := t1.mono fun r hr => h.s1 r (.inl hr)
  have r2E : Sp p 8 (EB (i + 1)) r.2 := ((Sp.of (r := upd (fun _ => 0) i 1) ⟨i, by omega, rfl⟩).plus (tE.mono monoE)).cg t2
  have ei : Cg p 8 (upd (fun _ => 0) i 1) (fun z => r.2 z + (-1) * t z) := fun z hz => by
    obtain ⟨q, e⟩ := t2 z hz
    exact ⟨-q, by rw [Int.mul_neg, ← e]; simp only; omega⟩
  unfold solR
  by_cases e : eqN 8 r.1 (fun _ => 0) = true
  · rw [if_pos e]
    have r0 : ∀ z, z < 8 → r.1 z = 0 := fun z hz => by
      unfold eqN at e
      rw [decide_eq_true_eq] at e
      exact e z hz
    have hle := h.le
    refine ⟨by simp only; omega, h.tri, fun k hk z hz => ?_, fun k hk => ?_, ?_, ?_⟩
    · simp only at hk ⊢
      by_cases ek : k = s.ke
      · subst ek; rw [rw8_eq]; exact a2 z hz
      · rw [rw8_lt (by omega) hz]; exact h.kin k (by omega) z hz
    · simp only at hk ⊢
      by_cases ek : k = s.ke
      · subst ek
        exact (phi_cg hn (Cg.of_eq fun z hz => rw8_eq)).trans (a4.trans (Cg.of_eq r0))
      · exact (phi_cg hn (Cg.of_eq fun z hz => rw8_lt (by omega) hz)).trans (h.pk k (by omega))
    · rintro r' (hr' | hr')
      · exact (h.s1 _ (.inl hr')).mono monoE
      · refine (join_sub r' hr').mono fun w hw => ?_
        rcases hw with hw | rfl
        · exact (h.s1 _ (.inr hw)).mono monoE
        · exact r2E
    · have inr : Sub p 8 (Un (Rw s.ke (rw8 s.gk)) r.2) (QQ ⟨s.m, s.ke + 1, s.gi, s.gs, joinN (s.ke * 8) s.gk r.2⟩) := fun w hw => (sub_join w hw).mono fun y hy => .of (.inr hy)
      rintro r' ⟨k, hk, rfl⟩
      by_cases ek : k = i
      · subst ek
        refine ((inr _ (.inr rfl)).plus (Sp.times (-1) (t1.mono fun y hy => ?_))).cg ei
        exact .of (.inl hy)
      · refine (h.s2 _ ⟨k, by omega, rfl⟩).mono fun y hy => ?_
        rcases hy with hy | hy
        · exact .of (.inl hy)
        · exact inr _ (.inl hy)
  · rw [if_neg e]
    have hf := first8_nz e
    have hnz := first8_at hf
    have hub := a1 _ hf
    obtain ⟨v1, v2, v3⟩ := invN_ok hp (x := r.1 (first8 r.1)) (by omega) (by omega)
    generalize (invN p (r.1 (first8 r.1)) : Int) = b at v1 v2 v3
    have iI : inP p (addV p (fun _ => 0) r.1 b) := addV_in (by omega)
    have iS : inP p (addV p (fun _ => 0) r.2 b) := addV_in (by omega)
    have cI : Cg p 8 (addV p (fun _ => 0) r.1 b) (fun z => b * r.1 z) := (addV_cg (p := p)).trans (Cg.of_eq fun z _ => by omega)
    have cS : Cg p 8 (addV p (fun _ => 0) r.2 b) (fun z => b * r.2 z) := (addV_cg (p := p)).trans (Cg.of_eq fun z _ => by omega)
    generalize addV p (fun _ => 0) r.1 b = wI at iI cI
    generalize addV p (fun _ => 0) r.2 b = wS at iS cS
    have w1 : p ∣ wI (first8 r.1) - 1 := dvd_of_eq (Int.dvd_add (cI _ hf) v3) (by simp only; omega)
    have wz : ∀ z, z < 8 → p ∣ r.1 z → p ∣ wI z := fun z hz hd => dvd_of_eq (Int.dvd_add (cI z hz) (Int.dvd_mul_of_dvd_right (b := b) hd)) (by simp only; omega)
    have fI : first8 wI = first8 r.1 := first8_is hf (fun e0 => not_dvd_one (by omega) w1 (by rw [e0]; exact Int.dvd_zero _)) (fun j hj => zero_of (wz j (by omega) (by rw [first8_low hj]; exact Int.dvd_zero _)) (iI j (by omega)).1 (iI j (by omega)).2)
    have fk : ∀ k, k < s.m → first8 (rw8 (joinN (s.m * 8) s.gi wI) k) = first8 (rw8 s.gi k) := fun k hk => first8_congr fun z hz => rw8_lt hk hz
    have fm : first8 (rw8 (joinN (s.m * 8) s.gi wI) s.m) = first8 r.1 := (first8_congr fun z hz => rw8_eq).trans fI
    have hle := h.le
    refine ⟨by simp only; omega, ⟨fun k hk z hz => ?_, fun k hk z hz => ?_, fun k hk => ?_, fun k hk => ?_, fun j k hjk hk => ?_, fun k hk => ?_⟩, h.kin, h.pk, ?_, ?_⟩
    · simp only at hk ⊢
      by_cases ek : k = s.m
      · subst ek; rw [rw8_eq]; exact iI z hz
      · rw [rw8_lt (by omega) hz]; exact h.tri.iin k (by omega) z hz
    · simp only at hk ⊢
      by_cases ek : k = s.m
      · subst ek; rw [rw8_eq]; exact iS z hz
      · rw [rw8_lt (by omega) hz]; exact h.tri.sin k (by omega) z hz
    · simp only at hk ⊢
      by_cases ek : k = s.m
      · subst ek; rw [fm]; exact hf
      · rw [fk k (by omega)]; exact h.tri.l8 k (by omega)
    · simp only at hk ⊢
      by_cases ek : k = s.m
      · subst ek; rw [fm, rw8_eq]; exact w1
      · rw [fk k (by omega), rw8_lt (by omega) (h.tri.l8 k (by omega))]; exact h.tri.one k (by omega)
    · simp only at hk ⊢
      have hj8 := h.tri.l8 j (by omega)
      rw [fk j (by omega)]
      by_cases ek : k = s.m
      · subst ek
        rw [rw8_eq]
        exact wz _ hj8 (a5 j hjk)
      · rw [rw8_lt (by omega) hj8]; exact h.tri.low j k hjk (by omega)
    · simp only at hk ⊢
      by_cases ek : k = s.m
      · subst ek
        have e1 := phi_cg (F := F) hn cS
        rw [phi_mul] at e1
        exact (phi_cg hn (Cg.of_eq fun z hz => rw8_eq)).trans ((e1.trans ((a4.mul b).trans cI.symm)).trans (Cg.of_eq fun z hz => rw8_eq.symm))
      · exact (phi_cg hn (Cg.of_eq fun z hz => rw8_lt (by omega) hz)).trans ((h.tri.ph k (by omega)).trans (Cg.of_eq fun z hz => (rw8_lt (by omega) hz).symm))
    · rintro r' (hr' | hr')
      · refine (join_sub r' hr').mono fun w hw => ?_
        rcases hw with hw | rfl
        · exact (h.s1 _ (.inl hw)).mono monoE
        · exact (r2E.times b).cg cS
      · exact (h.s1 _ (.inr hr')).mono monoE
    · have inl : Sub p 8 (Un (Rw s.m (rw8 s.gs)) wS) (QQ ⟨s.m + 1, s.ke, joinN (s.m * 8) s.gi wI, joinN (s.m * 8) s.gs wS, s.gk⟩) := fun w hw => (sub_join w hw).mono fun y hy => .of (.inl hy)
      have r2Q : Sp p 8 (Un (Rw s.m (rw8 s.gs)) wS) r.2 := by
        refine (Sp.times (r.1 (first8 r.1)) (Sp.of (r := wS) (.inr rfl))).cg ?_
        refine Cg.symm ((cS.mul (r.1 (first8 r.1))).trans fun z hz => ?_)
        have := Int.dvd_mul_of_dvd_left (c := r.2 z) v3
        refine dvd_of_eq this ?_
        simp only [Int.sub_mul, Int.one_mul]
        rw [Int.mul_comm b (r.1 (first8 r.1)), Int.mul_assoc]
      rintro r' ⟨k, hk, rfl⟩
      by_cases ek : k = i
      · subst ek
        refine ((r2Q.mono inl).plus (Sp.times (-1) (t1.mono fun y hy => ?_))).cg ei
        exact inl _ (.inl hy)
      · refine (h.s2 _ ⟨k, by omega, rfl⟩).mono fun y hy => ?_
        rcases hy with hy | hy
        · exact inl _ (.inl hy)
        · exact .of (.inr hy)
theorem solS_ok (hp : isP p = true) (hn : n ≤ 8) (hF : ∀ i, i < n → inP p (F i)) : ∀ i, i ≤ n → SolI p n F i (solS p F i)
  | 0, _ => ⟨Nat.le_refl _, ⟨fun k h => by simp [solS] at h, fun k h => by simp [solS] at h, fun k h => by simp [solS] at h, fun k h => by simp [solS] at h, fun j k _ h => by simp [solS] at h, fun k h => by simp [solS] at h⟩, fun k h => by simp [solS] at h, fun k h => by simp [solS] at h, (by rintro r (⟨k, hk, _⟩ | ⟨k, hk, _⟩) <;> simp [solS] at hk), (by rintro r ⟨k, hk, _⟩; omega)⟩
  | i + 1, hi => solR_ok hp hn (solS_ok hp hn hF i (by omega)) (by omega) (hF i (by omega))
theorem Sp.none {N : Nat} {v : Nat → Int} (h : Sp p N (fun _ => False) v) : ∀ z, z < N → p ∣ v z := by
  cases h with
  | zero h => exact fun z hz => by have := h z hz; simpa using this
  | add a hv hr h => exact hr.elim
theorem EB_all (hn : n ≤ 8) {v : Nat → Int} (hv : ∀ z, n ≤ z → z < 8 → p ∣ v z) : Sp p 8 (EB n) v := by
  refine (Sp.sum (f := fun k => upd (fun _ => 0) k 1) (c := v) (m := n) fun k hk => .of ⟨k, hk, rfl⟩).cg fun i hi => ?_
  show p ∣ v i - sumN (fun k => v k * upd (fun _ => 0) k 1 i) n
  by_cases h : i < n
  · rw [sumN_one (i := i) h (fun k _ hne => by simp only [upd]; rw [if_neg (fun q => hne q.symm), Int.mul_zero])]
    simp only [upd, if_true, Int.mul_one]
    exact ⟨0, by omega⟩
  · have e0 : sumN (fun k => v k * upd (fun _ => 0) k 1 i) n = 0 := (sumN_congr (g := fun _ => 0) fun k hk => by simp only [upd]; rw [if_neg (by omega), Int.mul_zero]).trans sumN_zero
    rw [e0, Int.sub_zero]; exact hv i (by omega) hi
theorem phi_sum {a : Nat → Int} {S : Nat → Nat → Int} {z : Nat} : ∀ {m : Nat}, phi F n (fun i => sumN (fun k => a k * S k i) m) z = sumN (fun k => a k * phi F n (S k) z) m
  | 0 => by
    unfold phi
    simp only [sumN, Int.zero_mul, sumN_zero]
  | m + 1 => by
    have e := phi_lin (F := F) (n := n) (v := fun i => sumN (fun k => a k * S k i) m) (w := S m) (a := a m)
    have e' := congrFun e z
    simp only [sumN] at e' ⊢
    rw [e', phi_sum (m := m)]
theorem ker_sem (hp : isP p = true) (hn : n ≤ 8) {s : Sol} (h : SolI p n F n s) {v : Nat → Int} : Sp p 8 (Rw s.ke (rw8 s.gk)) v ↔ (∀ z, n ≤ z → z < 8 → p ∣ v z) ∧ ∀ z, z < 8 → p ∣ phi F n v z := by
  have hk : ∀ {w : Nat → Int}, Sp p 8 (Rw s.ke (rw8 s.gk)) w → ∀ z, z < 8 → p ∣ phi F n w z := fun hw => (hw.map (F := F) (H := fun _ => False) hn (fun r hr => by
    obtain ⟨k, hk, rfl⟩ := hr
    exact .zero (h.pk k hk))).none
  constructor
  · intro hv
    refine ⟨fun z h1 h2 => (hv.mono fun r hr => h.s1 r (.inr hr)).zer h2 fun r hr => ?_, hk hv⟩
    obtain ⟨k, hk, rfl⟩ := hr
    simp only [upd]; rw [if_neg (by omega)]; exact Int.dvd_zero _
  · rintro ⟨h1, h2⟩
    obtain ⟨s', t', g1, g2, g3⟩ := ((EB_all hn h1).mono h.s2).split
    obtain ⟨a, ha⟩ := g1.coef
    have fz : ∀ z, z < 8 → p ∣ phi F n s' z := fun z hz => by
      have e1 := phi_cg (F := F) hn g3 z hz
      have e2 : phi F n (fun i => s' i + t' i) z = phi F n s' z + phi F n t' z := by
        have e3 := congrFun (phi_lin (F := F) (n := n) (v := s') (w := t') (a := 1)) z
        simp only [Int.one_mul] at e3
        exact e3
      rw [e2] at e1
      have e4 := Int.dvd_sub (Int.dvd_sub (h2 z hz) e1) (hk g2 z hz)
      exact dvd_of_eq e4 (by omega)
    have az : ∀ k, k < s.m → p ∣ a k := tri_zero h.tri.one h.tri.low (fun k hk => by
      have hk8 := h.tri.l8 k hk
      have e1 := phi_cg (F := F) hn ha _ hk8
      rw [phi_sum] at e1
      have e2 : p ∣ sumN (fun j => a j * phi F n (rw8 s.gs j) (first8 (rw8 s.gi k))) s.m - sumN (fun j => a j * rw8 s.gi j (first8 (rw8 s.gi k))) s.m := dvd_sum fun j hj =>
        dvd_of_eq (Int.dvd_mul_of_dvd_right (b := a j) (h.tri.ph j hj _ hk8)) (by rw [Int.mul_sub])
      have e3 := Int.dvd_sub (Int.dvd_sub (fz _ hk8) e1) e2
      exact dvd_of_eq e3 (by omega))
    refine g2.cg fun z hz => ?_
    have e1 := ha z hz
    have e2 : p ∣ sumN (fun k => a k * rw8 s.gs k z) s.m := sumN_dvd fun k hk => Int.dvd_mul_of_dvd_left (az k hk)
    have e3 := Int.dvd_add (g3 z hz) (Int.dvd_add e1 e2)
    exact dvd_of_eq e3 (by simp only; omega)
def kerM (p : Int) (F : Nat → Nat → Int) (n : Nat) : Nat × (Nat → Int) := redM p (solS p F n).gk (solS p F n).ke
theorem ker_ok (hp : isP p = true) (hn : n ≤ 8) (hF : ∀ i, i < n → inP p (F i)) : ∃ l, RedG p (kerM p F n).1 (kerM p F n).2 l ∧ ∀ v, Sp p 8 (Rw (kerM p F n).1 (rw8 (kerM p F n).2)) v ↔ (∀ z, n ≤ z → z < 8 → p ∣ v z) ∧ ∀ z, z < 8 → p ∣ phi F n v z := by
  have h := solS_ok hp hn hF n (Nat.le_refl n)
  obtain ⟨l, r1, r2, r3⟩ := redM_ok hp h.kin _ (Nat.le_refl _)
  refine ⟨l, r1, fun v => ?_⟩
  rw [← ker_sem hp hn h]
  exact ⟨fun hv => hv.mono r2, fun hv => hv.mono r3⟩
def tabV (W : Nat → Nat → Int) : Nat → Nat → Int
  | 0 => fun _ => 0
  | i + 1 => updN (tabV W i) (i * 8) 8 (W i)
theorem tabV_row {W : Nat → Nat → Int} : ∀ {i k z : Nat}, k < i → z < 8 → rw8 (tabV W i) k z = W k z
  | 0, k, z, h, _ => by omega
  | i + 1, k, z, h, hz => by
    unfold rw8
    simp only [tabV, updN]
    by_cases e : k = i
    · subst e; rw [if_pos (by omega)]; congr 1; omega
    · rw [if_neg (by omega)]; exact tabV_row (by omega) hz
def metT (p : Int) (a b : Nat × (Nat → Int)) : Nat → Int := tabV (fun i => byS p b.2 (rw8 a.2 i) b.1) a.1
def metW (p : Int) (a b : Nat × (Nat → Int)) (i : Nat) : Nat → Int := accV p a.1 (rw8 (kerM p (rw8 (metT p a b)) a.1).2 i) (rw8 a.2)
def metM (p : Int) (a b : Nat × (Nat → Int)) : Nat × (Nat → Int) := redV p (metW p a b) (kerM p (rw8 (metT p a b)) a.1).1
theorem metT_in (hp : isP p = true) {a b : Nat × (Nat → Int)} (hA : ∀ i, i < a.1 → inP p (rw8 a.2 i)) {i : Nat} (hi : i < a.1) : inP p (rw8 (metT p a b) i) := fun z hz => by
  have hr := isP_range hp
  unfold metT
  rw [tabV_row hi hz]
  exact byS_in (by omega) (hA i hi) z hz
theorem acc_phi {a : Nat × (Nat → Int)} {c : Nat → Int} : Cg p 8 (accV p a.1 c (rw8 a.2)) (phi (rw8 a.2) a.1 c) := fun z hz => by
  unfold accV phi
  rw [if_pos hz]
  exact mod_dvd
theorem met_ok (hp : isP p = true) {a b : Nat × (Nat → Int)} {l : Nat → Nat} (ha : a.1 ≤ 8) (hA : ∀ i, i < a.1 → inP p (rw8 a.2 i)) (hB : RedG p b.1 b.2 l) :
    ∃ l', RedG p (metM p a b).1 (metM p a b).2 l' ∧ ∀ v, Sp p 8 (Rw (metM p a b).1 (rw8 (metM p a b).2)) v ↔ Sp p 8 (Rw a.1 (rw8 a.2)) v ∧ Sp p 8 (Rw b.1 (rw8 b.2)) v := by
  have hr := isP_range hp
  obtain ⟨lk, k1, k2⟩ := ker_ok hp ha (F := rw8 (metT p a b)) (fun i hi => metT_in hp hA hi)
  obtain ⟨l', r1, r2, r3⟩ := redV_ok hp (V := metW p a b) (N := (kerM p (rw8 (metT p a b)) a.1).1) (fun i _ => inP_acc (by omega)) _ (Nat.le_refl _)
  refine ⟨l', r1, fun v => ?_⟩
  have hs : ∀ i, ∃ s, i < a.1 → Sp p 8 (Rw b.1 (rw8 b.2)) s ∧ Cg p 8 (byS p b.2 (rw8 a.2 i) b.1) (fun z => rw8 a.2 i z + s z) := fun i => by
    by_cases hi : i < a.1
    · obtain ⟨⟨s, s1, s2⟩, _⟩ := byS_ok (by omega) hB (hA i hi) b.1 (Nat.le_refl _)
      exact ⟨s, fun _ => ⟨s1, s2⟩⟩
    · exact ⟨fun _ => 0, fun h => absurd h hi⟩
  obtain ⟨S, hS⟩ := Classical.axiomOfChoice hs
  have split : ∀ c : Nat → Int, Cg p 8 (phi (rw8 (metT p a b)) a.1 c) (fun z => phi (rw8 a.2) a.1 c z + sumN (fun k => c k * S k z) a.1) := fun c z hz => by
    unfold phi
    simp only
    rw [sumN_add]
    refine dvd_sum fun k hk => ?_
    have e : rw8 (metT p a b) k z = byS p b.2 (rw8 a.2 k) b.1 z := tabV_row hk hz
    rw [e]
    have := Int.dvd_mul_of_dvd_right (b := c k) ((hS k hk).2 z hz)
    exact dvd_of_eq this (by simp only [Int.mul_sub, Int.mul_add])
  have sB : ∀ c : Nat → Int, Sp p 8 (Rw b.1 (rw8 b.2)) (fun z => sumN (fun k => c k * S k z) a.1) := fun c => Sp.sum fun k hk => (hS k hk).1
  have sA : ∀ c : Nat → Int, Sp p 8 (Rw a.1 (rw8 a.2)) (phi (rw8 a.2) a.1 c) := fun c => Sp.sum (f := rw8 a.2) (c := c) fun k hk => .of ⟨k, hk, rfl⟩
  constructor
  · intro hv
    have hv' := hv.mono r2
    have rows : ∀ i, i < (kerM p (rw8 (metT p a b)) a.1).1 → Sp p 8 (Rw a.1 (rw8 a.2)) (metW p a b i) ∧ Sp p 8 (Rw b.1 (rw8 b.2)) (metW p a b i) := fun i hi => by
      obtain ⟨_, hz⟩ := (k2 _).1 (.of ⟨i, hi, rfl⟩)
      refine ⟨(sA _).cg acc_phi, ?_⟩
      refine (Sp.times (-1) (sB (rw8 (kerM p (rw8 (metT p a b)) a.1).2 i))).cg (acc_phi.trans fun z h8 => ?_)
      have e1 := Int.dvd_sub (hz z h8) (split (rw8 (kerM p (rw8 (metT p a b)) a.1).2 i) z h8)
      exact dvd_of_eq e1 (by simp only; omega)
    exact ⟨hv'.mono (fun r hr => by obtain ⟨k, hk, rfl⟩ := hr; exact (rows k hk).1), hv'.mono (fun r hr => by obtain ⟨k, hk, rfl⟩ := hr; exact (rows k hk).2)⟩
  · rintro ⟨h1, h2⟩
    obtain ⟨c, hc⟩ := h1.coef
    have hc' : Cg p 8 v (phi (rw8 a.2) a.1 (keepN a.1 c)) := hc.trans (Cg.of_eq fun z _ => by
      unfold phi
      exact sumN_congr fun k hk => by rw [keepN_at hk])
    have hk : Sp p 8 (Rw (kerM p (rw8 (metT p a b)) a.1).1 (rw8 (kerM p (rw8 (metT p a b)) a.1).2)) (keepN a.1 c) := (k2 _).2 (by
      refine ⟨fun z h1 h2 => ?_, ?_⟩
      · unfold keepN; rw [if_neg (by omega)]; exact Int.dvd_zero _
      ·
        have wB : Sp p 8 (Rw b.1 (rw8 b.2)) (phi (rw8 (metT p a b)) a.1 (keepN a.1 c)) := ((h2.cg hc'.symm).plus (sB (keepN a.1 c))).cg (split (keepN a.1 c))
        have pr := hB.red.proj wB
        intro z hz
        refine dvd_to (pr z hz) (sumN_dvd fun k hk => Int.dvd_mul_of_dvd_left ?_)
        have hl8 := hB.red.inn k hk
        refine sumN_dvd fun j hj => Int.dvd_mul_of_dvd_right ?_
        have e : rw8 (metT p a b) j (l k) = byS p b.2 (rw8 a.2 j) b.1 (l k) := tabV_row hj hl8
        rw [e]
        exact (byS_ok (by omega) hB (hA j hj) b.1 (Nat.le_refl _)).2 k hk)
    have hm : Sp p 8 (Rw (kerM p (rw8 (metT p a b)) a.1).1 (metW p a b)) (phi (rw8 a.2) a.1 (keepN a.1 c)) := hk.map ha (fun r hr => by
      obtain ⟨k, hk, rfl⟩ := hr
      exact (Sp.of (r := metW p a b k) ⟨k, hk, rfl⟩).cg (acc_phi (a := a)).symm)
    exact (hm.cg hc').mono r3
end
end Go.Proofs.Ytmjpfchbkolcbaa.H
namespace Go.Proofs.Ytmjpfchbkolcbaa.H
open Go Go.RowKit Go.Proofs.Ytmjpfchbkolcbaa.Hy
set_option linter.unusedVariables false
set_option linter.unusedSimpArgs false
set_option maxRecDepth 100000
section
variable {ρ : Type} {p : Int} {n : Nat}
theorem spec_solve (K : Nat → Nat → Nat → (Nat → Int) → (Nat → Int) → (Nat → Int) → Option ρ) (hp : isP p = true) (hn : n ≤ 8) {f : Nat → Int} (hF : ∀ i, i < n → inP p (rw8 f i)) :
    spec_l01Solve 6000 K p (n : Int) f = K (solS p (rw8 f) n).m (solS p (rw8 f) n).m (solS p (rw8 f) n).ke (solS p (rw8 f) n).gi (solS p (rw8 f) n).gs (solS p (rw8 f) n).gk := by
  have hr := isP_range hp
  unfold spec_l01Solve spec_l01Solve.s
  have main := loop_st (l := fun F (i : Nat) (s : Sol) => spec_l01Solve.l0 6000 K p (n : Int) f (fun a b c d e g => spec_l01Solve.a0_0 6000 K a b c d e g) F s.m s.m s.ke (i : Int) s.gi s.gs s.gk) (n := n)
    (out := K (solS p (rw8 f) n).m (solS p (rw8 f) n).m (solS p (rw8 f) n).ke (solS p (rw8 f) n).gi (solS p (rw8 f) n).gs (solS p (rw8 f) n).gk) (solS p (rw8 f)) (fun q i hi => ?_) (fun q => ?_) n 0 6000 (by omega) (by omega)
  · exact main
  · simp only [spec_l01Solve.l0, spec_l01Solve.b0]
    have h1 : (i : Int) < (n : Int) := by omega
    have h2 : (0 : Int) ≤ i ∧ (i : Int) < 8 := by omega
    have hI := solS_ok hp hn hF i (by omega)
    have er : (fun z => f (i * 8 + z)) = rw8 f i := rfl
    have hb : inP p (upd (fun _ => 0) i 1) := inP_basis (by omega) i
    simp only [h1, h2, decide_true, if_true, and_self, Int.toNat_natCast, er]
    rw [spec_basis_eq _ (by omega)]
    simp only [solS]
    generalize solS p (rw8 f) i = s at hI ⊢
    have hle := hI.le
    have hv := slv_ok (by omega) hn hI.tri (hF i hi) hb (phi_basis hi)
    refine loop_att (n := s.m) (fun k => (slv p s.gi s.gs (rw8 f i) (upd (fun _ => 0) i 1) k).1) (fun k => (slv p s.gi s.gs (rw8 f i) (upd (fun _ => 0) i 1) k).2) rfl rfl (fun q2 k hk => ?_) (fun q2 => ?_) (by omega)
    · obtain ⟨a1, a2, _⟩ := hv k (by omega)
      simp only [spec_l01Solve.l1, spec_l01Solve.b1, slv, Nat.zero_add]
      generalize slv p s.gi s.gs (rw8 f i) (upd (fun _ => 0) i 1) k = r at a1 a2 ⊢
      have k1 : (k : Int) < (s.m : Int) := by omega
      have k2 : (0 : Int) ≤ k ∧ (k : Int) < (s.m : Int) := by omega
      have er2 : (fun z => s.gi (k * 8 + z)) = rw8 s.gi k := rfl
      have er3 : (fun z => s.gs (k * 8 + z)) = rw8 s.gs k := rfl
      have hl8 := hI.tri.l8 k hk
      have k3 : (0 : Int) ≤ ((first8 (rw8 s.gi k) : Nat) : Int) ∧ ((first8 (rw8 s.gi k) : Nat) : Int) < 8 := by omega
      simp only [k1, k2, decide_true, if_true, and_self, Int.toNat_natCast, Nat.mul_one, er2, er3, spec_first, k3, nx' (show k < 100000000 by omega)]
      by_cases e : r.1 (first8 (rw8 s.gi k)) = 0
      · simp only [e, bne_self_eq_false, Bool.false_eq_true, if_false, if_true]
      · have hb' : (r.1 (first8 (rw8 s.gi k)) != 0) = true := by simpa using e
        have hx := a1 _ hl8
        have w1 : IntKind.i64.wrap (r.1 (first8 (rw8 s.gi k))) = r.1 (first8 (rw8 s.gi k)) := wrap64_id (by omega) (by omega)
        have w2 : IntKind.i64.wrap (0 - r.1 (first8 (rw8 s.gi k))) = -(r.1 (first8 (rw8 s.gi k))) := by rw [wrap64_id (by omega) (by omega)]; omega
        simp only [hb', if_true, w1, w2, if_neg e]
        rw [spec_add _ (by omega) (by omega) (inP_byte (by omega) a1) (inP_byte (by omega) (hI.tri.iin k hk)) (by omega) (by omega), spec_add _ (by omega) (by omega) (inP_byte (by omega) a2) (inP_byte (by omega) (hI.tri.sin k hk)) (by omega) (by omega)]
    · obtain ⟨a1, a2, _⟩ := hv s.m (Nat.le_refl _)
      simp only [spec_l01Solve.l1, spec_l01Solve.b1, Int.lt_irrefl, decide_false, Bool.false_eq_true, if_false, spec_l01Solve.a1_0, spec_l01Zero]
      generalize slv p s.gi s.gs (rw8 f i) (upd (fun _ => 0) i 1) s.m = r at a1 a2 ⊢
      unfold solR
      have b1 : (s.ke + 1) * 8 ≤ 140737488355328 := by omega
      have b2 : (s.m + 1) * 8 ≤ 140737488355328 := by omega
      by_cases e : eqN 8 r.1 (fun _ => 0) = true
      · simp only [e, if_true, b1, nx' (show i < 100000000 by omega)]
      · have hf := first8_nz e
        have hnz := first8_at hf
        have hub := a1 _ hf
        have k3 : (0 : Int) ≤ ((first8 r.1 : Nat) : Int) ∧ ((first8 r.1 : Nat) : Int) < 8 := by omega
        obtain ⟨v1, v2, v3⟩ := invN_ok hp (x := r.1 (first8 r.1)) (by omega) (by omega)
        have w1 : IntKind.i64.wrap (invN p (r.1 (first8 r.1)) : Int) = (invN p (r.1 (first8 r.1)) : Int) := wrap64_id (by omega) (by omega)
        simp only [e, if_false, Bool.false_eq_true, spec_first, k3, and_self, if_true, Int.toNat_natCast, Nat.mul_one]
        rw [spec_inverse _ hp (by omega) (by omega)]
        simp only [w1]
        rw [spec_add _ (by omega) (by omega) (fun i _ => by omega) (inP_byte (by omega) a1) (by omega) (by omega)]
        simp only [b2, if_true]
        rw [spec_add _ (by omega) (by omega) (fun i _ => by omega) (inP_byte (by omega) a2) (by omega) (by omega)]
        simp only [b2, if_true, nx' (show i < 100000000 by omega)]
  · simp only [spec_l01Solve.l0, spec_l01Solve.b0, Int.lt_irrefl, decide_false, Bool.false_eq_true, if_false, spec_l01Solve.a0_0]
theorem spec_kernel (K : Nat → (Nat → Int) → Option ρ) (hp : isP p = true) (hn : n ≤ 8) {f : Nat → Int} (hF : ∀ i, i < n → inP p (rw8 f i)) : spec_l01Kernel 6000 K p (n : Int) f = K (kerM p (rw8 f) n).1 (kerM p (rw8 f) n).2 := by
  have h := solS_ok hp hn hF n (Nat.le_refl n)
  have hle := h.le
  unfold spec_l01Kernel
  rw [spec_solve _ hp hn hF]
  simp only [Nat.zero_add]
  exact spec_redL hp (by omega) h.kin K
theorem spec_whole (K : Nat → (Nat → Int) → Option ρ) (hn : n ≤ 8) : spec_l01Whole 6000 K (n : Int) = K n (lstV (fun k => upd (fun _ => 0) k 1) n) := by
  unfold spec_l01Whole spec_l01Whole.s
  have main := loop_st (l := fun F (i : Nat) (s : Nat × (Nat → Int)) => spec_l01Whole.l0 6000 K (n : Int) (fun ov5 ov6 => spec_l01Whole.a0_0 6000 K ov5 ov6) F s.1 (i : Int) s.2) (n := n) (out := K n (lstV (fun k => upd (fun _ => 0) k 1) n)) (fun i => (i, lstV (fun k => upd (fun _ => 0) k 1) i)) (fun q i hi => ?_) (fun q => ?_) n 0 6000 (by omega) (by omega)
  · exact main
  · simp only [spec_l01Whole.l0, spec_l01Whole.b0]
    have h1 : (i : Int) < (n : Int) := by omega
    have b1 : (i + 1) * 8 ≤ 140737488355328 := by omega
    simp only [h1, decide_true, if_true]
    rw [spec_basis_eq _ (by omega)]
    simp only [b1, if_true, nx' (show i < 100000000 by omega), lstV]
  · simp only [spec_l01Whole.l0, spec_l01Whole.b0, Int.lt_irrefl, decide_false, Bool.false_eq_true, if_false, spec_l01Whole.a0_0]
theorem spec_meet (K : Nat → (Nat → Int) → Option ρ) (hp : isP p = true) {a b : Nat × (Nat → Int)} {c d : Nat} {l : Nat → Nat} (ha : a.1 ≤ 8) (hA : ∀ i, i < a.1 → inP p (rw8 a.2 i)) (hB : RedG p b.1 b.2 l) :
    spec_l01Meet_susu_v2 6000 K p a.1 b.1 c a.2 d b.2 = K (metM p a b).1 (metM p a b).2 := by
  have hr := isP_range hp
  have hbm := hB.red.many
  unfold spec_l01Meet_susu_v2 spec_l01Meet_susu_v2.s
  refine loop_at (n := a.1) (fun i => tabV (fun i => byS p b.2 (rw8 a.2 i) b.1) i) rfl (fun q i hi => ?_) (fun q => ?_) (by omega)
  · simp only [spec_l01Meet_susu_v2.l0, spec_l01Meet_susu_v2.b0, Nat.zero_add]
    have h1 : (i : Int) < (a.1 : Int) := by omega
    have h2 : (0 : Int) ≤ i ∧ (i : Int) < (a.1 : Int) := by omega
    have h3 : (0 : Int) ≤ i ∧ (i : Int) < 8 := by omega
    have er : (fun z => a.2 (i * 8 + z)) = rw8 a.2 i := rfl
    simp only [h1, h2, h3, decide_true, if_true, and_self, Int.toNat_natCast, er]
    rw [spec_by _ (by omega) (by omega) hB (hA i hi) (by omega)]
    simp only [nx' (show i < 100000000 by omega), tabV]
  · simp only [spec_l01Meet_susu_v2.l0, spec_l01Meet_susu_v2.b0, Int.lt_irrefl, decide_false, Bool.false_eq_true, if_false, spec_l01Meet_susu_v2.a0_0]
    rw [show tabV (fun i => byS p b.2 (rw8 a.2 i) b.1) a.1 = metT p a b from rfl, spec_kernel _ hp ha (fun i hi => metT_in (b := b) hp hA hi)]
    obtain ⟨lk, kr, _⟩ := ker_ok hp ha (F := rw8 (metT p a b)) (fun i hi => metT_in hp hA hi)
    have hkm := kr.red.many
    have main := loop_st (l := fun F (i : Nat) (s : Nat × (Nat → Int)) => spec_l01Meet_susu_v2.l1 6000 K p a.1 a.2 (kerM p (rw8 (metT p a b)) a.1).1 (kerM p (rw8 (metT p a b)) a.1).2 (fun ov23 ov24 => spec_l01Meet_susu_v2.a1_0 6000 K ov23 ov24) F s.1 (i : Int) s.2) (n := (kerM p (rw8 (metT p a b)) a.1).1)
      (out := K (metM p a b).1 (metM p a b).2) (fun i => redV p (metW p a b) i) (fun q i hi => ?_) (fun q => ?_) (kerM p (rw8 (metT p a b)) a.1).1 0 6000 (by omega) (by omega)
    · exact main
    · simp only [spec_l01Meet_susu_v2.l1, spec_l01Meet_susu_v2.b1]
      have h1 : (i : Int) < ((kerM p (rw8 (metT p a b)) a.1).1 : Int) := by omega
      have h2 : (0 : Int) ≤ i ∧ (i : Int) < ((kerM p (rw8 (metT p a b)) a.1).1 : Int) := by omega
      simp only [h1, decide_true, if_true]
      refine loop_at (n := a.1) (fun k => accV p k (rw8 (kerM p (rw8 (metT p a b)) a.1).2 i) (rw8 a.2)) (by rw [accV_zero]) (fun q2 k hk => ?_) (fun q2 => ?_) (by omega)
      · simp only [spec_l01Meet_susu_v2.l2, spec_l01Meet_susu_v2.b2, Nat.zero_add]
        have k1 : (k : Int) < (a.1 : Int) := by omega
        have k2 : (0 : Int) ≤ k ∧ (k : Int) < (a.1 : Int) := by omega
        have k3 : (0 : Int) ≤ k ∧ (k : Int) < 8 := by omega
        have er : (fun z => a.2 (k * 8 + z)) = rw8 a.2 k := rfl
        have ek : (kerM p (rw8 (metT p a b)) a.1).2 (i * 8 + k) = rw8 (kerM p (rw8 (metT p a b)) a.1).2 i k := rfl
        have hx := kr.ent i hi k (by omega)
        have w1 : IntKind.i64.wrap (rw8 (kerM p (rw8 (metT p a b)) a.1).2 i k) = rw8 (kerM p (rw8 (metT p a b)) a.1).2 i k := wrap64_id (by omega) (by omega)
        simp only [k1, k2, k3, h2, decide_true, if_true, and_self, Int.toNat_natCast, Nat.mul_one, er, ek, w1]
        rw [spec_add _ (by omega) (by omega) (inP_byte (by omega) (inP_acc (by omega))) (inP_byte (by omega) (hA k hk)) (by omega) (by omega), ← accV_succ]
        simp only [nx' (show k < 100000000 by omega)]
      · simp only [spec_l01Meet_susu_v2.l2, spec_l01Meet_susu_v2.b2, Int.lt_irrefl, decide_false, Bool.false_eq_true, if_false, spec_l01Meet_susu_v2.a2_0, nx' (show i < 100000000 by omega)]
        obtain ⟨l', r1, _, _⟩ := redV_ok hp (V := metW p a b) (N := (kerM p (rw8 (metT p a b)) a.1).1) (fun i _ => inP_acc (by omega)) i (by omega)
        exact spec_put (ρ := ρ) hp r1 (v := metW p a b i) (inP_acc (by omega)) (fun r gg => spec_l01Meet_susu_v2.l1 6000 K p a.1 a.2 (kerM p (rw8 (metT p a b)) a.1).1 (kerM p (rw8 (metT p a b)) a.1).2 (fun ov23 ov24 => spec_l01Meet_susu_v2.a1_0 6000 K ov23 ov24) q r ((i + 1 : Nat) : Int) gg) (c := (redV p (metW p a b) i).1 * 8)
    · simp only [spec_l01Meet_susu_v2.l1, spec_l01Meet_susu_v2.b1, Int.lt_irrefl, decide_false, Bool.false_eq_true, if_false, spec_l01Meet_susu_v2.a1_0]
      rfl
variable {a0 a1 : Nat → Int}
def cenW (a0 a1 : Nat → Int) (i k : Nat) : Nat → Int := addV (a0 0) (fun z => a1 (8 + k * 64 + i * 8 + z)) (fun z => a1 (8 + i * 64 + k * 8 + z)) (-1)
def cenF (a0 a1 : Nat → Int) (n i : Nat) : Nat → Nat → Int := rw8 (tabV (cenW a0 a1 i) n)
def cenS (a0 a1 : Nat → Int) (n : Nat) : Nat → Nat × (Nat → Int)
  | 0 => (n, lstV (fun k => upd (fun _ => 0) k 1) n)
  | i + 1 => metM (a0 0) (cenS a0 a1 n i) (kerM (a0 0) (cenF a0 a1 n i) n)
theorem cenF_in (H : Shp a0 a1 n) {i k : Nat} (hk : k < n) : inP (a0 0) (cenF a0 a1 n i k) := fun z hz => by
  unfold cenF
  rw [tabV_row hk hz]
  exact addV_in H.p0 z hz
theorem cenS_ok (H : Shp a0 a1 n) (hp : isP (a0 0) = true) : ∀ i, ∃ l, RedG (a0 0) (cenS a0 a1 n i).1 (cenS a0 a1 n i).2 l ∧ ∀ v, Sp (a0 0) 8 (Rw (cenS a0 a1 n i).1 (rw8 (cenS a0 a1 n i).2)) v ↔ (∀ z, n ≤ z → z < 8 → a0 0 ∣ v z) ∧ ∀ j, j < i → ∀ z, z < 8 → a0 0 ∣ phi (cenF a0 a1 n j) n v z
  | 0 => by
    have hn := H.le
    have h2 := H.p2
    have row : ∀ {k z : Nat}, k < n → z < 8 → rw8 (lstV (fun k => upd (fun _ => 0) k 1) n) k z = if z = k then 1 else 0 := fun hk hz => lstV_row hk hz
    refine ⟨fun k => k, ⟨⟨fun k hk => by simp only [cenS] at hk; omega, fun j k h _ => h, fun k hk => ?_, fun j k hj hk hne => ?_, fun k i hk hi => ?_⟩, fun k hk i hi => ?_⟩, fun v => ?_⟩
    · simp only [cenS] at hk ⊢
      rw [row hk (by omega), if_pos rfl]; exact ⟨0, by omega⟩
    · simp only [cenS] at hj hk ⊢
      rw [row hk (by omega), if_neg hne]; exact Int.dvd_zero _
    · simp only [cenS] at hk ⊢
      rw [row hk (by omega), if_neg (by omega)]; exact Int.dvd_zero _
    · simp only [cenS] at hk ⊢
      rw [row hk hi]; split <;> omega
    · simp only [cenS]
      constructor
      · intro hv
        refine ⟨fun z h1 h2 => hv.zer h2 fun r hr => ?_, fun j hj => by omega⟩
        obtain ⟨k, hk, rfl⟩ := hr
        rw [row hk h2, if_neg (by omega)]; exact Int.dvd_zero _
      · rintro ⟨h1, _⟩
        refine (EB_all hn h1).mono fun r hr => ?_
        obtain ⟨k, hk, rfl⟩ := hr
        exact (Sp.of (r := rw8 (lstV (fun k => upd (fun _ => 0) k 1) n) k) ⟨k, hk, rfl⟩).cg (Cg.of_eq fun z hz => (lstV_row (V := fun k => upd (fun _ => 0) k 1) hk hz).symm)
  | i + 1 => by
    obtain ⟨l, r1, r2⟩ := cenS_ok H hp i
    obtain ⟨lk, k1, k2⟩ := ker_ok hp H.le (F := cenF a0 a1 n i) (fun k hk => cenF_in H hk)
    obtain ⟨l', m1, m2⟩ := met_ok hp (a := cenS a0 a1 n i) r1.red.many r1.ent k1
    refine ⟨l', m1, fun v => ?_⟩
    simp only [cenS]
    rw [m2, r2, k2]
    constructor
    · rintro ⟨⟨h1, h2⟩, _, h3⟩
      refine ⟨h1, fun j hj z hz => ?_⟩
      by_cases e : j = i
      · subst e; exact h3 z hz
      · exact h2 j (by omega) z hz
    · rintro ⟨h1, h2⟩
      exact ⟨⟨h1, fun j hj => h2 j (by omega)⟩, h1, h2 i (by omega)⟩
theorem spec_cen (H : Shp a0 a1 n) (hp : isP (a0 0) = true) (K : Nat → Int → (Nat → Int) → Option ρ) (hc : algB a0 a1 = true) (hb : ∀ i, i < 520 → 0 ≤ a1 i ∧ a1 i ≤ 255) : spec_CentreOf 6000 K a0 a1 = K (cenS a0 a1 n n).1 0 (cenS a0 a1 n n).2 := by
  have hn := H.le
  have hs := H.size
  have hr := isP_range hp
  unfold spec_CentreOf spec_CentreOf.s
  rw [spec_is hb, hc]
  simp only [Bool.not_true, Bool.false_eq_true, if_false, hs]
  rw [spec_whole _ hn]
  have main := loop_st (l := fun F (i : Nat) (s : Nat × (Nat → Int)) => spec_CentreOf.l0 6000 K a0 a1 (fun ov16 ov17 => spec_CentreOf.a0_0 6000 K ov16 ov17) F s.1 (i : Int) s.2) (n := n) (out := K (cenS a0 a1 n n).1 0 (cenS a0 a1 n n).2) (cenS a0 a1 n) (fun q i hi => ?_) (fun q => ?_) n 0 6000 (by omega) (by omega)
  · exact main
  · simp only [spec_CentreOf.l0, spec_CentreOf.b0, hs]
    have h1 : (i : Int) < (n : Int) := by omega
    have i2 : (0 : Int) ≤ i ∧ (i : Int) < 8 := by omega
    simp only [h1, decide_true, if_true]
    refine loop_at (n := n) (fun k => tabV (cenW a0 a1 i) k) rfl (fun q2 k hk => ?_) (fun q2 => ?_) (by omega)
    · simp only [spec_CentreOf.l1, spec_CentreOf.b1, hs]
      have k1 : (k : Int) < (n : Int) := by omega
      have k2 : (0 : Int) ≤ k ∧ (k : Int) < 8 := by omega
      simp only [k1, k2, i2, decide_true, if_true, and_self, Int.toNat_natCast]
      rw [spec_add _ (by omega) (by omega) (inP_byte (by omega) (H.mul' (by omega) (by omega))) (inP_byte (by omega) (H.mul' (by omega) (by omega))) (by omega) (by omega)]
      simp only [nx' (show k < 100000000 by omega), tabV]
      rfl
    · simp only [spec_CentreOf.l1, spec_CentreOf.b1, hs, Int.lt_irrefl, decide_false, Bool.false_eq_true, if_false, spec_CentreOf.a1_0, Nat.zero_add]
      obtain ⟨l, r1, r2⟩ := cenS_ok H hp i
      obtain ⟨lk, k1, k2⟩ := ker_ok hp H.le (F := cenF a0 a1 n i) (fun k hk => cenF_in H hk)
      rw [spec_kernel _ hp hn (f := tabV (cenW a0 a1 i) n) (fun k hk => cenF_in H hk)]
      refine Eq.trans (spec_meet _ hp (a := cenS a0 a1 n i) (b := kerM (a0 0) (cenF a0 a1 n i) n) r1.red.many r1.ent k1) ?_
      simp only [nx' (show i < 100000000 by omega), cenS]
  · simp only [spec_CentreOf.l0, spec_CentreOf.b0, hs, Int.lt_irrefl, decide_false, Bool.false_eq_true, if_false, spec_CentreOf.a0_0]
theorem wn2 (hn : n ≤ 8) : IntKind.i64.wrap ((n : Int) * n) = ((n * n : Nat) : Int) := by
  have := Nat.mul_le_mul hn hn
  rw [← Int.natCast_mul]; exact wrap64_id (by omega) (by omega)
theorem wdiv {m k : Nat} (hm : m ≤ 100000) : IntKind.i64.wrap (Int.tdiv (m : Int) (k : Int)) = ((m / k : Nat) : Int) := by
  have h : m / k ≤ m := Nat.div_le_self m k
  show IntKind.i64.wrap ((m / k : Nat) : Int) = ((m / k : Nat) : Int)
  generalize m / k = q at h
  exact wrap64_id (by omega) (by omega)
theorem wmod {m k : Nat} : Int.tmod (m : Int) (k : Int) = ((m % k : Nat) : Int) := (Int.ofNat_tmod _ _).symm
def cenE (a1 : Nat → Int) (n t x : Nat) : Int := a1 (8 + x * 64 + (t / n) * 8 + t % n) - a1 (8 + (t / n) * 64 + x * 8 + t % n)
theorem cen_c1 (H : Shp a0 a1 n) (t x : Nat) (ht : t < n * n) (hx : x < n) (X : Int → Option ρ) : impl_CentreOf_c1 6000 X (t : Int) (x : Int) (fun _ => (n : Int)) a0 a1 = X (cenE a1 n t x) := by
  have hn := H.le
  have h31 := H.p31
  have hnn : n * n ≤ 64 := by have := Nat.mul_le_mul hn hn; omega
  have hn0 : ¬ (n : Int) = 0 := by omega
  have hj : t / n < n := Nat.div_lt_of_lt_mul ht
  have hk : t % n < n := Nat.mod_lt _ (by omega)
  unfold impl_CentreOf_c1 cenE
  simp only [wdiv (k := n) (show t ≤ 100000 by omega), wmod, hn0, if_false]
  generalize t / n = j at hj
  generalize t % n = k at hk
  have x2 : (0 : Int) ≤ x ∧ (x : Int) < 8 := by omega
  have j2 : (0 : Int) ≤ j ∧ (j : Int) < 8 := by omega
  have k2 : (0 : Int) ≤ k ∧ (k : Int) < 8 := by omega
  have e1 := H.mul' (i := x) (j := j) (by omega) (by omega) k (by omega)
  have e2 := H.mul' (i := j) (j := x) (by omega) (by omega) k (by omega)
  simp only at e1 e2
  have w1 : IntKind.i64.wrap (a1 (8 + x * 64 + j * 8 + k)) = a1 (8 + x * 64 + j * 8 + k) := wrap64_id (by omega) (by omega)
  have w2 : IntKind.i64.wrap (a1 (8 + j * 64 + x * 8 + k)) = a1 (8 + j * 64 + x * 8 + k) := wrap64_id (by omega) (by omega)
  have w3 : IntKind.i64.wrap (a1 (8 + x * 64 + j * 8 + k) - a1 (8 + j * 64 + x * 8 + k)) = a1 (8 + x * 64 + j * 8 + k) - a1 (8 + j * 64 + x * 8 + k) := wrap64_id (by omega) (by omega)
  simp only [x2, j2, k2, and_self, if_true, Int.toNat_natCast, Nat.mul_one, w1, w2, w3]
theorem cen_same (H : Shp a0 a1 n) {v : Nat → Int} : (∀ j, j < n → ∀ z, z < 8 → a0 0 ∣ phi (cenF a0 a1 n j) n v z) ↔ ∀ t, t < n * n → a0 0 ∣ dotN n (eqU (a0 0) n (cenE a1 n) t) v := by
  have hn := H.le
  have key : ∀ j k, j < n → k < n → a0 0 ∣ phi (cenF a0 a1 n j) n v k - dotN n (eqU (a0 0) n (cenE a1 n) (j * n + k)) v := fun j k hj hk => by
    unfold phi dotN
    refine dvd_sum fun x hx => ?_
    have e1 : (j * n + k) / n = j := by rw [Nat.div_eq_iff (by omega)]; omega
    have e2 : (j * n + k) % n = k := by
      have := Nat.div_add_mod (j * n + k) n
      rw [e1, Nat.mul_comm] at this; omega
    have e3 : cenF a0 a1 n j x k = cenW a0 a1 j x k := tabV_row hx (by omega)
    have c1 := addV_cg (p := a0 0) (v := fun z => a1 (8 + x * 64 + j * 8 + z)) (w := fun z => a1 (8 + j * 64 + x * 8 + z)) (k := -1) k (by omega)
    have c2 := mod_dvd (p := a0 0) (x := cenE a1 n (j * n + k) x)
    have e4 : eqU (a0 0) n (cenE a1 n) (j * n + k) x = cenE a1 n (j * n + k) x % a0 0 := keepN_at hx
    rw [e3, e4]
    have c3 : a0 0 ∣ cenW a0 a1 j x k - cenE a1 n (j * n + k) x % a0 0 := dvd_of_eq (Int.dvd_sub c1 c2) (by
      unfold cenW cenE
      rw [e1, e2]
      simp only
      omega)
    exact dvd_of_eq (Int.dvd_mul_of_dvd_right (b := v x) c3) (by rw [Int.mul_sub, Int.mul_comm (cenE a1 n (j * n + k) x % a0 0) (v x)])
  constructor
  · intro h t ht
    have hj : t / n < n := Nat.div_lt_of_lt_mul ht
    have hk : t % n < n := Nat.mod_lt _ H.pos
    have e : t / n * n + t % n = t := by rw [Nat.mul_comm]; exact Nat.div_add_mod t n
    generalize t / n = j at hj e
    generalize t % n = k at hk e
    have := Int.dvd_sub (h j hj k (by omega)) (key j k hj hk)
    rw [e] at this
    exact dvd_of_eq this (by omega)
  · intro h j hj z hz
    by_cases hzn : z < n
    · have hjz : j * n + z < n * n := by
        have := Nat.mul_le_mul (show j + 1 ≤ n by omega) (Nat.le_refl n)
        rw [Nat.add_mul, Nat.one_mul] at this; omega
      exact dvd_to (key j z hj hzn) (h _ hjz)
    ·
      refine sumN_dvd fun x hx => Int.dvd_mul_of_dvd_right ?_
      have e3 : cenF a0 a1 n j x z = cenW a0 a1 j x z := tabV_row hx hz
      have c1 := addV_cg (p := a0 0) (v := fun z => a1 (8 + x * 64 + j * 8 + z)) (w := fun z => a1 (8 + j * 64 + x * 8 + z)) (k := -1) z hz
      have z1 := H.mul0 x j z (by omega) (by omega) hz (by omega)
      have z2 := H.mul0 j x z (by omega) (by omega) hz (by omega)
      rw [e3]
      refine dvd_to c1 ?_
      simp only
      rw [show 8 + x * 64 + j * 8 + z = 8 + (x * 64 + (j * 8 + z)) by omega, show 8 + j * 64 + x * 8 + z = 8 + (j * 64 + (x * 8 + z)) by omega, z1, z2]
      exact ⟨0, by omega⟩
theorem impl_unless_eq (K : Int → Option ρ) (b : Bool) (c : Int) : impl_unless 6000 K b c = K (if b = true then 0 else c) := by
  cases b <;> rfl
theorem impl_code0 (hb : ∀ i, i < 520 → 0 ≤ a1 i ∧ a1 i ≤ 255) (K : Int → Option ρ) : impl_Algebra_code_n 6000 K a0 a1 = K (if algB a0 a1 = true then 0 else 1) := by
  simp only [impl_Algebra_code_n, impl_is hb]
  by_cases h : algB a0 a1 = true
  · simp only [h, if_true]
    rfl
  · have h' : algB a0 a1 = false := by simpa using h
    simp [h', impl_unless_eq]
theorem algB_shp (h : algB a0 a1 = true) (hb : ∀ i, i < 520 → 0 ≤ a1 i ∧ a1 i ≤ 255) : ∃ n, Shp a0 a1 n := by
  unfold algB at h
  rw [Bool.and_eq_true] at h
  exact shp_of h.1 hb
theorem both_cen (hb : ∀ i, i < 520 → 0 ≤ a1 i ∧ a1 i ≤ 255) : ∃ (rn : Nat) (rc : Int) (rg gi : Nat → Int), rn ≤ 8 ∧ (∀ z, z < rn * 8 → gi z = rg z) ∧
      (∀ X : Nat → Int → (Nat → Int) → Option ρ, spec_CentreOf 6000 X a0 a1 = X rn rc rg) ∧
      (∀ X : Nat → Int → (Nat → Int) → Option ρ, impl_CentreOf 6000 X a0 a1 = X rn rc gi) := by
  by_cases hc : algB a0 a1 = true
  · obtain ⟨n, H⟩ := algB_shp hc hb
    have hn := H.le
    have hp : isP (a0 0) = true := by
      have := H.siz
      unfold sizB at this
      simp only [Bool.and_eq_true] at this
      exact this.1
    have hr := isP_range hp
    have hnn : n * n ≤ 64 := by have := Nat.mul_le_mul hn hn; omega
    obtain ⟨l, c1, c2⟩ := cenS_ok H hp n
    have f0 : upd (upd (fun _ => 0) 0 (a0 0)) 1 (a0 1) 0 = a0 0 := by simp [upd]
    have f1 : upd (upd (fun _ => 0) 0 (a0 0)) 1 (a0 1) 1 = (n : Int) := by simp [upd, H.size]
    obtain ⟨lr, r1, r2, r3⟩ := redV_ok hp (V := eqU (a0 0) n (cenE a1 n)) (N := n * n) (fun i _ => eqU_in H.p0) (n * n) (Nat.le_refl _)
    obtain ⟨hl8, g', k1, k2⟩ := impl_kernel (ρ := ρ) hp f0 f1 hn (M := n * n) (by omega) (E := cenE a1 n) (w2 := fun _ => (n : Int)) (w3 := a0) (w4 := a1) (fun t x ht hx X => cen_c1 H t x ht hx X) r1 r2 r3
    generalize hR : redV (a0 0) (eqU (a0 0) n (cenE a1 n)) (n * n) = R at r1 r2 r3 hl8 k1 k2
    obtain ⟨l2, q1, q2, q3⟩ := redM_ok hp (nulS_in (p := a0 0) (by omega) (l := lr) (A := rw8 R.2) (m := R.1) (k := n)) _ (Nat.le_refl _)
    have sem : ∀ v, Sp (a0 0) 8 (Rw (nulS (a0 0) lr (rw8 R.2) R.1 n).1 (rw8 (nulS (a0 0) lr (rw8 R.2) R.1 n).2)) v ↔ Sp (a0 0) 8 (Rw (cenS a0 a1 n n).1 (rw8 (cenS a0 a1 n n).2)) v := fun v => by
      rw [c2, nulS_span (r1.red.down hl8) hn, cen_same H]
      have e : (∀ i, i < R.1 → a0 0 ∣ dotN n (rw8 R.2 i) v) ↔ ∀ t, t < n * n → a0 0 ∣ dotN n (eqU (a0 0) n (cenE a1 n) t) v :=
        ⟨fun h t ht => (r3 _ ⟨t, ht, rfl⟩).dot hn (fun r hr => by obtain ⟨k, hk, rfl⟩ := hr; exact h k hk), fun h i hi => (r2 _ ⟨i, hi, rfl⟩).dot hn (fun r hr => by obtain ⟨k, hk, rfl⟩ := hr; exact h k hk)⟩
      rw [e]
    obtain ⟨e1, e2⟩ := q1.same (by omega) c1 (q2.trans fun r hr => (sem r).1 (.of hr)) (Sub.trans (fun r hr => (sem r).2 (.of hr)) q3)
    refine ⟨(cenS a0 a1 n n).1, 0, (cenS a0 a1 n n).2, g', c1.red.many, fun z hz => ?_, fun X => spec_cen H hp X hc hb, fun X => ?_⟩
    · rw [k2 z (by rw [e1]; exact hz)]
      exact e2 z (by rw [e1]; exact hz)
    · rw [impl_CentreOf, impl_code0 hb, if_pos hc]
      simp only [bne_self_eq_false, Bool.false_eq_true, if_false, impl_Algebra_field, H.size, wn2 hn]
      rw [H.size] at k1
      rw [k1, e1]
  · refine ⟨0, 1, fun _ => 0, fun _ => 0, by omega, fun z hz => rfl, fun X => ?_, fun X => ?_⟩
    · have hc' : algB a0 a1 = false := by simpa using hc
      rw [spec_CentreOf, spec_CentreOf.s, spec_is hb, hc']
      rfl
    · rw [impl_CentreOf, impl_code0 hb, if_neg hc]
      simp only [show ((1 : Int) != 0) = true from by decide, if_true]
theorem fnExactCentreOf_law (K : Bool → Option ρ) (a0 a1 : Nat → Int) (h0 : ∀ i, IntKind.i64.has (a0 i)) (h1 : ∀ i, IntKind.u8.has (a1 i)) : laws_FnExactCentreOf 6000 K a0 a1 = K true := by
  rw [laws_FnExactCentreOf]
  simp only [toAlgebra_eq]
  obtain ⟨rn, rc, rg, gi, h8, e1, hs, hi⟩ := both_cen (ρ := ρ) (a0 := keepN 2 a0) (a1 := keepN 520 a1) (keepN_byte h1)
  simp only [hs, hi, Nat.zero_add]
  refine Eq.trans (eqVsu _ (by omega) (by omega) e1) ?_
  simp only [Bool.not_true, Bool.false_eq_true, if_false, bne_self_eq_false]
  have hrp : ¬ 101 + ((rn * 8 : Nat) : Int) < 0 := by omega
  refine Eq.trans (markVsu _ (by omega)) ?_
  have hh : ∀ z, z < rn * 8 → (fun z => updN gi 0 (rn * 8) (mkB (fun z => gi z) (rn * 8)) z) z = IntKind.u8.wrap (101 + (z : Int)) := fun z hz => by
    have := mkB_held (r := gi) (g := fun z => gi z) (m := rn) z hz
    simpa using this
  refine Eq.trans (heldVsu _ (by omega) hh) ?_
  simp only [hrp, decide_false, Bool.false_eq_true, if_false, bne_self_eq_false]
  refine Eq.trans (eqVsu _ (by omega) (by omega) e1) ?_
  simp only [Bool.not_true, Bool.false_eq_true, if_false, bne_self_eq_false]
  refine Eq.trans (heldVsu _ (by omega) hh) ?_
  simp only [hrp, decide_false, Bool.false_eq_true, if_false, bne_self_eq_false]
end
end Go.Proofs.Ytmjpfchbkolcbaa.H
