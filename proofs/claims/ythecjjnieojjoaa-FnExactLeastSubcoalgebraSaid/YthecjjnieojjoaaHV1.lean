/- Sums and products of vectors modulo a prime: the reference and the program tell the same. -/
import Derived.Test.YthecjjnieojjoaaHV0
namespace Go.Proofs.Ythecjjnieojjoaa.H
set_option linter.unusedVariables false
set_option linter.unusedSimpArgs false
open Go Go.RowKit Go.Proofs.Ythecjjnieojjoaa.Hy
set_option linter.unusedVariables false
set_option linter.unusedSimpArgs false
set_option maxRecDepth 100000

variable {ρ : Type}

/-- entries below a prime -/
def inP (p : Int) (v : Nat → Int) : Prop := ∀ i, i < 8 → 0 ≤ v i ∧ v i < p

theorem spec_mod (K : Int → Option ρ) {p x : Int} (hp : 0 < p) (hp' : p ≤ 255) (hx : -1000000000000 ≤ x) (hx' : x ≤ 1000000000000) : spec_l01Mod 6000 K p x = K (x % p) := by
  have h0 : ¬ p = 0 := by omega
  have h1 := tmod_lt (x := x) hp
  have h2 := tmod_gt (x := x) hp
  have h3 : Int.tmod (IntKind.i64.wrap (Int.tmod x p + p)) p = x % p := by
    rw [wrap64_id (by omega) (by omega), Int.tmod_eq_emod_of_nonneg (by omega), Int.add_emod_right, tmod_emod]
  have h4 : 0 ≤ x % p := Int.emod_nonneg _ (by omega)
  have h5 : x % p < p := Int.emod_lt_of_pos _ hp
  simp only [spec_l01Mod, h0, if_false, h3]
  rw [wrap8_id h4 (by omega)]

theorem impl_mod (K : Int → Option ρ) {f : Nat → Int} {x : Int} (hp : 0 < f 0) (hp' : f 0 ≤ 255) : impl_field_mod 6000 K f x = K (x % f 0) := by
  have h0 : ¬ f 0 = 0 := by omega
  have h1 := tmod_lt (x := x) hp
  have h2 := tmod_gt (x := x) hp
  have h3 := tmod_emod (x := x) (p := f 0)
  simp only [impl_field_mod, h0, if_false]
  by_cases hneg : Int.tmod x (f 0) < 0
  · have e : x % f 0 = Int.tmod x (f 0) + f 0 := by
      rw [← h3, ← Int.add_emod_right, Int.emod_eq_of_lt (by omega) (by omega)]
    simp only [hneg, decide_true, if_true]
    rw [wrap64_id (by omega) (by omega), wrap8_id (by omega) (by omega), e]
  · have e : x % f 0 = Int.tmod x (f 0) := by
      rw [← h3, Int.emod_eq_of_lt (by omega) (by omega)]
    simp only [hneg, decide_false, if_false, Bool.false_eq_true]
    rw [wrap8_id (by omega) (by omega), e]

/-- the first i places of a sum -/
def addTo (p : Int) (v w : Nat → Int) (k : Int) (n : Nat) : Nat → Int := fun i => if i < n then (v i + k * w i) % p else v i

theorem addTo_next {p : Int} {v w : Nat → Int} {k : Int} {n : Nat} : upd (addTo p v w k n) n ((v n + k * w n) % p) = addTo p v w k (n + 1) := by
  funext i
  unfold upd addTo
  by_cases h : i = n
  · subst h; simp
  · by_cases h2 : i < n
    · simp [h, h2, show i < n + 1 by omega]
    · simp [h, h2, show ¬ i < n + 1 by omega]

theorem addTo_at {p : Int} {v w : Nat → Int} {k : Int} {n : Nat} : addTo p v w k n n = v n := by simp [addTo]

theorem mul_small {k x : Int} (hk : -1000000 ≤ k) (hk' : k ≤ 1000000) (hx : 0 ≤ x) (hx' : x ≤ 255) : -255000000 ≤ k * x ∧ k * x ≤ 255000000 := by
  have h1 : -1000000 * x ≤ k * x := Int.mul_le_mul_of_nonneg_right hk hx
  have h2 : k * x ≤ 1000000 * x := Int.mul_le_mul_of_nonneg_right hk' hx
  omega

theorem spec_add (K : (Nat → Int) → Option ρ) {p : Int} {v w : Nat → Int} {k : Int} (hp : 0 < p) (hp' : p ≤ 255) (hv : ∀ i, i < 8 → 0 ≤ v i ∧ v i ≤ 255) (hw : ∀ i, i < 8 → 0 ≤ w i ∧ w i ≤ 255) (hk : -1000000 ≤ k) (hk' : k ≤ 1000000) :
    spec_l01Add 6000 K p v w k = K (addV p v w k) := by
  refine (loop_st (l := fun m i g => spec_l01Add.l0 6000 K p w k (fun o7 => spec_l01Add.a0_0 6000 K o7) m (i : Int) g) (n := 8) (addTo p v w k) (fun m i hi => ?_) (fun m => ?_) 8 0 6000 (by omega) (by omega))
  · simp only [spec_l01Add.l0, spec_l01Add.b0]
    have h1 : (i : Int) < 8 := by omega
    have h2 : (0 : Int) ≤ i ∧ (i : Int) < 8 := by omega
    have a1 := hv i hi
    have a2 := hw i hi
    have a3 := mul_small hk hk' a2.1 a2.2
    simp only [h1, h2, decide_true, if_true, and_self, Int.toNat_natCast, Nat.mul_one, nx (show i < 100000 by omega), addTo_at]
    rw [wrap64_id (x := v i) (by omega) (by omega), wrap64_id (x := w i) (by omega) (by omega), wrap64_id (x := k * w i) (by omega) (by omega), wrap64_id (x := v i + k * w i) (by omega) (by omega),
      spec_mod _ hp hp' (by omega) (by omega), addTo_next]
  · rfl

theorem impl_plus (K : (Nat → Int) → Option ρ) {f : Nat → Int} {w g : Nat → Int} {k : Int} (hp : 0 < f 0) (hp' : f 0 ≤ 255) (hv : inP (f 0) g) (hw : ∀ i, i < 8 → 0 ≤ w i ∧ w i ≤ 255) (hk : -1000000 ≤ k) (hk' : k ≤ 1000000) :
    impl_field_plus 6000 K f k w g = K (addV (f 0) g w k) := by
  by_cases hk0 : k = 0
  · subst hk0
    rw [addV_zero hv]
    rfl
  · have hkb : (k == 0) = false := by simpa using hk0
    simp only [impl_field_plus, impl_field_plus.s, hkb, Bool.false_eq_true, if_false]
    refine (loop_st (l := fun m i g => impl_field_plus.l0 6000 K f k w (fun o7 => impl_field_plus.a0_0 6000 K o7) m (i : Int) g) (n := 8) (addTo (f 0) g w k) (fun m i hi => ?_) (fun m => ?_) 8 0 6000 (by omega) (by omega))
    · simp only [impl_field_plus.l0, impl_field_plus.b0]
      have h1 : (i : Int) < 8 := by omega
      have h2 : (0 : Int) ≤ i ∧ (i : Int) < 8 := by omega
      have a1 := hv i hi
      have a2 := hw i hi
      have a3 := mul_small hk hk' a2.1 a2.2
      simp only [h1, h2, decide_true, if_true, and_self, Int.toNat_natCast, Nat.mul_one, nx (show i < 100000 by omega), addTo_at]
      rw [wrap64_id (x := g i) (by omega) (by omega), wrap64_id (x := w i) (by omega) (by omega), wrap64_id (x := k * w i) (by omega) (by omega), wrap64_id (x := g i + k * w i) (by omega) (by omega),
        impl_mod _ hp hp', addTo_next]
    · rfl

end Go.Proofs.Ythecjjnieojjoaa.H
