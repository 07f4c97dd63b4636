/- The law's own way to a reduced list: vector by vector. -/
import Derived.Test.YthecjjnieojjoaaHV1
import Derived.Test.YthecjjnieojjoaaHRI
namespace Go.Proofs.Ythecjjnieojjoaa.H
set_option linter.unusedVariables false
set_option linter.unusedSimpArgs false
open Go Go.RowKit Go.Proofs.Ythecjjnieojjoaa.Hy
set_option linter.unusedVariables false
set_option linter.unusedSimpArgs false
set_option maxRecDepth 100000

section
variable {ρ : Type}

/-- the first good number from i on, or i + k -/
def seekN (good : Nat → Bool) : Nat → Nat → Nat
  | i, 0 => i
  | i, k + 1 => if good i = true then i else seekN good (i + 1) k

theorem seekN_range {good : Nat → Bool} : ∀ {k i : Nat}, i ≤ seekN good i k ∧ seekN good i k ≤ i + k
  | 0, i => by simp [seekN]
  | k + 1, i => by
    simp only [seekN]
    split
    · omega
    · have := seekN_range (good := good) (k := k) (i := i + 1); omega

theorem seekN_low {good : Nat → Bool} : ∀ {k i : Nat}, ∀ j, i ≤ j → j < seekN good i k → good j = false
  | 0, i, j, h1, h2 => by simp only [seekN] at h2; omega
  | k + 1, i, j, h1, h2 => by
    simp only [seekN] at h2
    split at h2
    · omega
    · rename_i hg
      by_cases e : j = i
      · subst e; simpa using hg
      · exact seekN_low (k := k) (i := i + 1) j (by omega) h2

theorem seekN_good {good : Nat → Bool} : ∀ {k i : Nat}, seekN good i k < i + k → good (seekN good i k) = true
  | 0, i, h => by simp only [seekN] at h; omega
  | k + 1, i, h => by
    simp only [seekN] at h ⊢
    by_cases hg : good i = true
    · rw [if_pos hg]; exact hg
    · rw [if_neg hg] at h ⊢
      exact seekN_good (k := k) (i := i + 1) (by omega)

theorem seekN_lt {good : Nat → Bool} {k i j : Nat} (h1 : i ≤ j) (h2 : j < i + k) (hg : good j = true) : seekN good i k ≤ j := by
  apply Classical.byContradiction
  intro hn
  have := seekN_low (good := good) (k := k) (i := i) j h1 (by omega)
  rw [hg] at this; cases this

/-- a loop that looks for the first good one -/
theorem loop_seek {l : Nat → Nat → Option ρ} {n : Nat} (good : Nat → Bool) (X : Nat → Option ρ) (hs : ∀ m i, i < n → l (m + 1) i = if good i = true then X i else l m (i + 1)) (ho : ∀ m, l (m + 1) n = X n) :
    ∀ (k i m : Nat), i + k = n → k < m → l m i = X (seekN good i k)
  | 0, i, m, h, hm => by
    obtain ⟨m, rfl⟩ : ∃ k, m = k + 1 := ⟨m - 1, by omega⟩
    have : i = n := by omega
    subst this
    exact ho m
  | k + 1, i, m, h, hm => by
    obtain ⟨m, rfl⟩ : ∃ k, m = k + 1 := ⟨m - 1, by omega⟩
    rw [hs m i (by omega)]
    simp only [seekN]
    by_cases hb : good i = true
    · rw [if_pos hb, if_pos hb]
    · rw [if_neg hb, if_neg hb]
      exact loop_seek good X hs ho k (i + 1) m (by omega) (by omega)

/-- the first place that is not 0, or 8 -/
def first8 (v : Nat → Int) : Nat := seekN (fun i => !decide (v i = 0)) 0 8

theorem first8_low {v : Nat → Int} {i : Nat} (h : i < first8 v) : v i = 0 := by
  have := seekN_low (good := fun i => !decide (v i = 0)) (k := 8) (i := 0) i (by omega) h
  simpa using this
theorem first8_at {v : Nat → Int} (h : first8 v < 8) : v (first8 v) ≠ 0 := by
  have := seekN_good (good := fun i => !decide (v i = 0)) (k := 8) (i := 0) (by show first8 v < 0 + 8; omega)
  unfold first8
  simpa using this
theorem first8_le {v : Nat → Int} {i : Nat} (hi : i < 8) (h : v i ≠ 0) : first8 v ≤ i :=
  seekN_lt (good := fun i => !decide (v i = 0)) (by omega) (by omega) (by simpa using h)
theorem first8_is {v : Nat → Int} {i : Nat} (hi : i < 8) (h : v i ≠ 0) (h0 : ∀ j, j < i → v j = 0) : first8 v = i := by
  have h1 := first8_le hi h
  apply Classical.byContradiction
  intro hn
  exact first8_at (v := v) (by omega) (h0 _ (by omega))

theorem spec_first (K : Int → Option ρ) (v : Nat → Int) : spec_l01First 6000 K v = K ((first8 v : Nat) : Int) := by
  unfold spec_l01First spec_l01First.s first8
  refine loop_seek (l := fun N i => spec_l01First.l0 6000 K v (fun ov2 => spec_l01First.a0_0 6000 K ov2) N (i : Int)) (n := 8) (fun i => !decide (v i = 0)) (fun i => K (i : Int)) (fun q i hi => ?_) (fun q => ?_) 8 0 6000 (by omega) (by omega)
  · simp only [spec_l01First.l0, spec_l01First.b0]
    have h1 : (i : Int) < 8 := by omega
    have h2 : (0 : Int) ≤ i ∧ (i : Int) < 8 := by omega
    simp only [h1, h2, decide_true, if_true, and_self, Int.toNat_natCast, Nat.mul_one, nx (show i < 100000 by omega), spec_l01First.a0_0]
    by_cases e : v i = 0
    · simp [e]
    · simp [e]
  · rfl

/-- the inverse of x -/
def invN (p x : Int) : Nat := seekN (fun k => decide ((k : Int) * x % p = 1)) 1 30

theorem inv_ex {p x : Int} (hp : isP p = true) (h0 : 0 < x) (h1 : x < p) : ∃ k : Nat, 0 < k ∧ (k : Int) < p ∧ (k : Int) * x % p = 1 := by
  obtain ⟨y, rfl⟩ : ∃ y : Nat, x = y := ⟨x.toNat, by omega⟩
  have key : ∀ q : Nat, q ∈ [2, 3, 5, 7, 11, 13, 17, 19, 23, 29, 31] → ∀ y, y < q → 0 < y → ∃ k, k < q ∧ 0 < k ∧ k * y % q = 1 := by decide +kernel
  unfold isP at hp
  simp only [decide_eq_true_eq] at hp
  obtain ⟨q, rfl⟩ : ∃ q : Nat, p = q := ⟨p.toNat, by simp only [List.mem_cons, List.mem_nil_iff, or_false] at hp; omega⟩
  have hq : q ∈ [2, 3, 5, 7, 11, 13, 17, 19, 23, 29, 31] := by
    simp only [List.mem_cons, List.mem_nil_iff, or_false] at hp ⊢; omega
  obtain ⟨k, h2, h3, h4⟩ := key q hq y (by omega) (by omega)
  exact ⟨k, h3, by omega, by rw [← Int.natCast_mul, ← Int.natCast_emod, h4]; rfl⟩

theorem invN_ok {p x : Int} (hp : isP p = true) (h0 : 0 < x) (h1 : x < p) : 0 < invN p x ∧ (invN p x : Int) < p ∧ p ∣ (invN p x : Int) * x - 1 := by
  obtain ⟨k, h2, h3, h4⟩ := inv_ex hp h0 h1
  have hr := isP_range hp
  have g1 : invN p x ≤ k := seekN_lt (by omega) (by omega) (by simpa using h4)
  have g2 := (seekN_range (good := fun k => decide ((k : Int) * x % p = 1)) (k := 30) (i := 1)).1
  have g3 := seekN_good (good := fun k => decide ((k : Int) * x % p = 1)) (k := 30) (i := 1) (by unfold invN at g1; omega)
  refine ⟨by unfold invN; omega, by omega, ?_⟩
  simp only [decide_eq_true_eq] at g3
  have := Int.emod_add_mul_ediv ((invN p x : Int) * x) p
  exact ⟨(invN p x : Int) * x / p, by unfold invN at *; omega⟩

theorem spec_inverse (K : Int → Option ρ) {p x : Int} (hp : isP p = true) (h0 : 0 < x) (h1 : x < p) : spec_l01Inverse 6000 K p x = K (invN p x : Int) := by
  have hr := isP_range hp
  obtain ⟨k, h2, h3, h4⟩ := inv_ex hp h0 h1
  unfold spec_l01Inverse spec_l01Inverse.s
  have main : ∀ (n i q : Nat), i + n = 31 → n < q → 1 ≤ i → (∀ j, 1 ≤ j → j < i → ¬ (j : Int) * x % p = 1) → spec_l01Inverse.l0 6000 K p x (spec_l01Inverse.a0_0 6000 K) q (i : Int) = K (seekN (fun k => decide ((k : Int) * x % p = 1)) i n : Int) := by
    intro n
    induction n with
    | zero =>
      intro i q e _ _ hj
      exact absurd h4 (hj k (by omega) (by omega))
    | succ n ih =>
      intro i q e hq hi hj
      obtain ⟨q, rfl⟩ : ∃ k, q = k + 1 := ⟨q - 1, by omega⟩
      have hik : i ≤ k := by
        apply Classical.byContradiction; intro hn
        exact hj k (by omega) (by omega) h4
      have e1 : (i : Int) < p := by omega
      have e2 : ¬ p = 0 := by omega
      have m1 : 0 ≤ (i : Int) * x := Int.mul_nonneg (by omega) (by omega)
      have m2 : (i : Int) * x ≤ 31 * 31 := Int.mul_le_mul (by omega) (by omega) (by omega) (by omega)
      simp only [spec_l01Inverse.l0, spec_l01Inverse.b0, e1, e2, decide_true, if_true, if_false, seekN]
      rw [wrap64_id (x := x) (by omega) (by omega), wrap64_id (x := (i : Int) * x) (by omega) (by omega), Int.tmod_eq_emod_of_nonneg m1, nx (by omega)]
      by_cases hg : (i : Int) * x % p = 1
      · simp only [hg, beq_self_eq_true, if_true, decide_true]
        rw [wrap8_id (by omega) (by omega)]
      · simp only [hg, beq_iff_eq, if_false, decide_false, Bool.false_eq_true]
        exact ih (i + 1) q (by omega) (by omega) (by omega) (fun j h5 h6 => by
          by_cases ej : j = i
          · subst ej; exact hg
          · exact hj j h5 (by omega))
  exact main 30 1 6000 (by omega) (by omega) (by omega) (fun j h5 h6 => by omega)

/-! one vector less what a reduced list has of it -/

/-- row k of a list -/
def rw8 (g : Nat → Int) (k : Nat) : Nat → Int := fun z => g (k * 8 + z)

/-- a reduced list, its entries below p -/
structure RedG (p : Int) (m : Nat) (g : Nat → Int) (l : Nat → Nat) : Prop where
  red : Red p 8 m (rw8 g) l
  ent : ∀ k, k < m → inP p (rw8 g k)

theorem zero_of {p x : Int} (h : p ∣ x) (h0 : 0 ≤ x) (h1 : x < p) : x = 0 := by
  obtain ⟨t, e⟩ := h
  have := Int.emod_eq_of_lt h0 h1
  rw [e, Int.mul_emod_right] at this
  omega

theorem RedG.first {p : Int} {m : Nat} {g : Nat → Int} {l : Nat → Nat} (hp : 1 < p) (h : RedG p m g l) {k : Nat} (hk : k < m) : first8 (rw8 g k) = l k := by
  have hl := h.red.inn k hk
  refine first8_is hl (fun e => ?_) (fun j hj => zero_of (h.red.low k j hk hj) (h.ent k hk j (by omega)).1 (h.ent k hk j (by omega)).2)
  have := h.red.one k hk
  exact not_dvd_one hp this (by rw [e]; exact Int.dvd_zero _)

theorem addV_in {p : Int} (hp : 0 < p) {v w : Nat → Int} {k : Int} : inP p (addV p v w k) := fun i hi => by
  unfold addV
  rw [if_pos hi]
  exact ⟨Int.emod_nonneg _ (by omega), Int.emod_lt_of_pos _ hp⟩

theorem addV_cg {p : Int} {v w : Nat → Int} {k : Int} : Cg p 8 (addV p v w k) fun i => v i + k * w i := by
  intro i hi
  unfold addV
  rw [if_pos hi]
  exact Cg.mod (p := p) (n := 8) (v := fun i => v i + k * w i) i hi

/-- after k rows -/
def byS (p : Int) (g v : Nat → Int) : Nat → Nat → Int
  | 0 => v
  | k + 1 => let u := byS p g v k; if u (first8 (rw8 g k)) = 0 then u else addV p u (rw8 g k) (- u (first8 (rw8 g k)))

theorem byS_in {p : Int} (hp : 0 < p) {g v : Nat → Int} (hv : inP p v) : ∀ {k : Nat}, inP p (byS p g v k)
  | 0 => hv
  | k + 1 => by
    simp only [byS]
    split
    · exact byS_in hp hv
    · exact addV_in hp

theorem spec_by (K : (Nat → Int) → Option ρ) {p : Int} {m c : Nat} {g v : Nat → Int} {l : Nat → Nat} (hp : 1 < p) (hp' : p ≤ 255) (h : RedG p m g l) (hv : inP p v) (hm : m ≤ 1000) : spec_l01By_su_v2 6000 K p v m c g = K (byS p g v m) := by
  unfold spec_l01By_su_v2 spec_l01By_su_v2.s
  refine loop_at (n := m) (fun k => byS p g v k) rfl (fun q k hk => ?_) (fun q => ?_) (by omega)
  · simp only [spec_l01By_su_v2.l0, spec_l01By_su_v2.b0, spec_first]
    have h1 : (k : Int) < (m : Int) := by omega
    have h2 : (0 : Int) ≤ k ∧ (k : Int) < (m : Int) := by omega
    have hf := h.first hp hk
    have hl := h.red.inn k hk
    have h3 : (0 : Int) ≤ ((first8 (rw8 g k) : Nat) : Int) ∧ ((first8 (rw8 g k) : Nat) : Int) < 8 := by omega
    have hu := byS_in (p := p) (by omega) (g := g) hv (k := k)
    have hu' := hu (first8 (rw8 g k)) (by omega)
    have er : (fun z => g (k * 8 + z)) = rw8 g k := rfl
    simp only [h1, h2, decide_true, if_true, and_self, Int.toNat_natCast, Nat.zero_add, Nat.mul_one, nx (show k < 100000 by omega), er, h3, byS]
    by_cases e : byS p g v k (first8 (rw8 g k)) = 0
    · simp [e]
    · have e' : (byS p g v k (first8 (rw8 g k)) != 0) = true := by simpa using e
      simp only [e', e, if_true, if_false]
      have hb : ∀ i, i < 8 → 0 ≤ rw8 g k i ∧ rw8 g k i ≤ 255 := fun i hi => by have := h.ent k hk i hi; omega
      rw [wrap64_id (x := byS p g v k (first8 (rw8 g k))) (by omega) (by omega), wrap64_id (by omega) (by omega), spec_add _ (by omega) hp' (fun i hi => by have := hu i hi; omega) hb (by omega) (by omega)]
      rw [Int.zero_sub]
  · simp only [spec_l01By_su_v2.l0, spec_l01By_su_v2.b0, Int.lt_irrefl, decide_false, Bool.false_eq_true, if_false, spec_l01By_su_v2.a0_0]

theorem byS_ok {p : Int} {m : Nat} {g v : Nat → Int} {l : Nat → Nat} (hp : 1 < p) (h : RedG p m g l) (hv : inP p v) : ∀ k, k ≤ m → (∃ s, Sp p 8 (Rw m (rw8 g)) s ∧ Cg p 8 (byS p g v k) (fun i => v i + s i)) ∧ ∀ j, j < k → p ∣ byS p g v k (l j)
  | 0, _ => ⟨⟨fun _ => 0, .zero .refl, Cg.of_eq fun i _ => by simp [byS]⟩, fun j hj => by omega⟩
  | k + 1, hk => by
    obtain ⟨⟨s, h1, h2⟩, h3⟩ := byS_ok hp h hv k (by omega)
    have hf := h.first hp (show k < m by omega)
    simp only [byS]
    rw [hf]
    by_cases e : byS p g v k (l k) = 0
    · rw [if_pos e]
      refine ⟨⟨s, h1, h2⟩, fun j hj => ?_⟩
      by_cases ej : j = k
      · subst ej; rw [e]; exact Int.dvd_zero _
      · exact h3 j (by omega)
    · rw [if_neg e]
      refine ⟨⟨_, h1.add (- byS p g v k (l k)) ⟨k, by omega, rfl⟩ Cg.refl, ?_⟩, fun j hj => ?_⟩
      · refine addV_cg.trans ((h2.add (Cg.refl (v := fun i => - byS p g v k (l k) * rw8 g k i))).trans (Cg.of_eq fun i _ => by omega))
      · have hl := h.red.inn j (by omega)
        have c := addV_cg (p := p) (v := byS p g v k) (w := rw8 g k) (k := - byS p g v k (l k)) (l j) hl
        by_cases ej : j = k
        · subst ej
          have h4 := Int.dvd_mul_of_dvd_right (b := - byS p g v j (l j)) (h.red.one j (by omega))
          have := Int.dvd_add c h4
          refine dvd_of_eq this ?_
          simp only [Int.mul_sub, Int.mul_one]; omega
        · have h4 := Int.dvd_mul_of_dvd_right (b := - byS p g v k (l k)) (h.red.oth j k (by omega) (by omega) ej)
          have := Int.dvd_add c (Int.dvd_add (h3 j (by omega)) h4)
          exact dvd_of_eq this (by simp only; omega)

end
end Go.Proofs.Ythecjjnieojjoaa.H
