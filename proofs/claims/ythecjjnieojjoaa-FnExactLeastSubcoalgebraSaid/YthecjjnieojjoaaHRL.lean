/- Reduced lists of vectors modulo p: a reduced list is determined by its span. Plain arithmetic. -/
import Derived.Test.YthecjjnieojjoaaHyMath
namespace Go.Proofs.Ythecjjnieojjoaa.H
set_option linter.unusedVariables false
set_option linter.unusedSimpArgs false
open Go Go.RowKit Go.Proofs.Ythecjjnieojjoaa.Hy
set_option linter.unusedVariables false
set_option linter.unusedSimpArgs false

/-- alike modulo p in the first n places -/
def Cg (p : Int) (n : Nat) (v w : Nat → Int) : Prop := ∀ i, i < n → p ∣ v i - w i

theorem Cg.refl {p : Int} {n : Nat} {v : Nat → Int} : Cg p n v v := fun i _ => by rw [Int.sub_self]; exact Int.dvd_zero _
theorem Cg.symm {p : Int} {n : Nat} {v w : Nat → Int} (h : Cg p n v w) : Cg p n w v := fun i hi => by
  obtain ⟨t, e⟩ := h i hi; exact ⟨-t, by rw [Int.mul_neg, ← e]; omega⟩
theorem Cg.trans {p : Int} {n : Nat} {u v w : Nat → Int} (h : Cg p n u v) (g : Cg p n v w) : Cg p n u w := fun i hi => by
  obtain ⟨t, e⟩ := h i hi; obtain ⟨s, f⟩ := g i hi; exact ⟨t + s, by rw [Int.mul_add, ← e, ← f]; omega⟩
theorem Cg.add {p : Int} {n : Nat} {v w v' w' : Nat → Int} (h : Cg p n v v') (g : Cg p n w w') : Cg p n (fun i => v i + w i) (fun i => v' i + w' i) := fun i hi => by
  obtain ⟨t, e⟩ := h i hi; obtain ⟨s, f⟩ := g i hi; exact ⟨t + s, by simp only [Int.mul_add, ← e, ← f]; omega⟩
theorem Cg.mul {p : Int} {n : Nat} {v v' : Nat → Int} (a : Int) (h : Cg p n v v') : Cg p n (fun i => a * v i) (fun i => a * v' i) := fun i hi => by
  obtain ⟨t, e⟩ := h i hi; exact ⟨a * t, by simp only; rw [← Int.mul_sub, e, Int.mul_left_comm]⟩
theorem Cg.of_eq {p : Int} {n : Nat} {v w : Nat → Int} (h : ∀ i, i < n → v i = w i) : Cg p n v w := fun i hi => by rw [h i hi, Int.sub_self]; exact Int.dvd_zero _
theorem Cg.mod {p : Int} {n : Nat} {v : Nat → Int} : Cg p n (fun i => v i % p) v := fun i _ => by
  exact ⟨-(v i / p), by have := Int.emod_add_mul_ediv (v i) p; rw [Int.mul_neg]; simp only; omega⟩
theorem Cg.eq_of {p : Int} {n : Nat} {v w : Nat → Int} (h : Cg p n v w) (hv : ∀ i, i < n → 0 ≤ v i ∧ v i < p) (hw : ∀ i, i < n → 0 ≤ w i ∧ w i < p) : ∀ i, i < n → v i = w i := fun i hi => by
  have h1 := Int.emod_emod_of_dvd (v i) (Int.dvd_refl p)
  have h2 := Int.emod_eq_emod_iff_emod_sub_eq_zero.2 (Int.emod_eq_zero_of_dvd (h i hi))
  rw [Int.emod_eq_of_lt (hv i hi).1 (hv i hi).2, Int.emod_eq_of_lt (hw i hi).1 (hw i hi).2] at h2
  exact h2

/-- what is made of those of G -/
inductive Sp (p : Int) (n : Nat) (G : (Nat → Int) → Prop) : (Nat → Int) → Prop
  | zero {v : Nat → Int} (h : Cg p n v fun _ => 0) : Sp p n G v
  | add {v w r : Nat → Int} (a : Int) (hv : Sp p n G v) (hr : G r) (h : Cg p n w fun i => v i + a * r i) : Sp p n G w

theorem Sp.cg {p : Int} {n : Nat} {G : (Nat → Int) → Prop} {v w : Nat → Int} (h : Sp p n G v) (g : Cg p n w v) : Sp p n G w := by
  cases h with
  | zero h => exact .zero (g.trans h)
  | add a hv hr h => exact .add a hv hr (g.trans h)

theorem Sp.of {p : Int} {n : Nat} {G : (Nat → Int) → Prop} {r : Nat → Int} (h : G r) : Sp p n G r := .add 1 (.zero .refl) h (Cg.of_eq fun i _ => by simp)

theorem Sp.plus {p : Int} {n : Nat} {G : (Nat → Int) → Prop} {v w : Nat → Int} (h : Sp p n G v) (g : Sp p n G w) : Sp p n G fun i => v i + w i := by
  induction g with
  | zero g => exact h.cg fun i hi => by obtain ⟨t, e⟩ := g i hi; exact ⟨t, by rw [← e]; show _ - _ = _ - (0 : Int); omega⟩
  | add a hv hr g ih => exact .add a ih hr ((Cg.refl.add g).trans (Cg.of_eq fun i _ => by omega))

theorem Sp.times {p : Int} {n : Nat} {G : (Nat → Int) → Prop} {v : Nat → Int} (a : Int) (h : Sp p n G v) : Sp p n G fun i => a * v i := by
  induction h with
  | zero h => exact .zero ((h.mul a).trans (Cg.of_eq fun i _ => by simp))
  | add b hv hr h ih => exact .add (a * b) ih hr ((h.mul a).trans (Cg.of_eq fun i _ => by simp only [Int.mul_add, Int.mul_assoc]))

theorem Sp.mono {p : Int} {n : Nat} {G H : (Nat → Int) → Prop} {v : Nat → Int} (h : Sp p n G v) (g : ∀ r, G r → Sp p n H r) : Sp p n H v := by
  induction h with
  | zero h => exact .zero h
  | add b hv hr h ih => exact (ih.plus ((g _ hr).times b)).cg h

theorem Sp.sum {p : Int} {n : Nat} {G : (Nat → Int) → Prop} {f : Nat → Nat → Int} {c : Nat → Int} : ∀ {m : Nat}, (∀ k, k < m → Sp p n G (f k)) → Sp p n G fun i => sumN (fun k => c k * f k i) m
  | 0, _ => .zero .refl
  | m + 1, h => (Sp.sum (m := m) fun k hk => h k (by omega)).plus ((h m (by omega)).times (c m))

/-- the rows of a list -/
def Rw (m : Nat) (R : Nat → Nat → Int) : (Nat → Int) → Prop := fun r => ∃ k, k < m ∧ r = R k

/-- a reduced list, with its leads -/
structure Red (p : Int) (n m : Nat) (R : Nat → Nat → Int) (l : Nat → Nat) : Prop where
  inn : ∀ k, k < m → l k < n
  up : ∀ j k, j < k → k < m → l j < l k
  one : ∀ k, k < m → p ∣ R k (l k) - 1
  oth : ∀ j k, j < m → k < m → j ≠ k → p ∣ R k (l j)
  low : ∀ k i, k < m → i < l k → p ∣ R k i

variable {p : Int} {n m m' : Nat} {R R' : Nat → Nat → Int} {l l' : Nat → Nat}

theorem Red.le (h : Red p n m R l) {j k : Nat} (hj : j ≤ k) (hk : k < m) : l j ≤ l k := by
  by_cases e : j = k
  · subst e; exact Nat.le_refl _
  · exact Nat.le_of_lt (h.up j k (by omega) hk)

theorem Red.inj (h : Red p n m R l) {j k : Nat} (hj : j < m) (hk : k < m) (e : l j = l k) : j = k := by
  by_cases h1 : j < k
  · have := h.up j k h1 hk; omega
  · by_cases h2 : k < j
    · have := h.up k j h2 hj; omega
    · omega

theorem sumN_dvd {f : Nat → Int} : ∀ {m : Nat}, (∀ k, k < m → p ∣ f k) → p ∣ sumN f m
  | 0, _ => Int.dvd_zero _
  | m + 1, h => Int.dvd_add (sumN_dvd (m := m) fun k hk => h k (by omega)) (h m (by omega))

theorem sumN_sub {f g : Nat → Int} : ∀ {m : Nat}, sumN f m - sumN g m = sumN (fun k => f k - g k) m
  | 0 => by simp [sumN]
  | m + 1 => by simp only [sumN]; rw [← sumN_sub (m := m)]; omega

/-- what is made of the rows of a reduced list, by its entries at the leads -/
theorem Red.proj (h : Red p n m R l) {v : Nat → Int} (g : Sp p n (Rw m R) v) : Cg p n v fun i => sumN (fun k => v (l k) * R k i) m := by
  induction g with
  | @zero v g =>
    refine fun i hi => Int.dvd_sub (by have := g i hi; simpa using this) (sumN_dvd fun k hk => Int.dvd_mul_of_dvd_left ?_)
    have := g (l k) (h.inn k hk); simpa using this
  | @add v w r a hv hr g ih =>
    obtain ⟨j, hj, rfl⟩ := hr
    intro i hi
    -- w i - Σ w(l k) R k i  =  (w i - v i - a R j i) + (v i - Σ v (l k) R k i) + (a R j i - Σ a R j (l k) R k i) - Σ (w - v - a R j)(l k) R k i
    obtain ⟨t1, e1⟩ := g i hi
    obtain ⟨t2, e2⟩ := ih i hi
    have h3 : p ∣ R j i - sumN (fun k => R j (l k) * R k i) m := by
      have e : R j i = sumN (fun k => if k = j then R j i else 0) m := by
        rw [sumN_one (i := j) hj (fun k _ hne => by simp [hne])]; simp
      rw [e, sumN_sub]
      refine sumN_dvd fun k hk => ?_
      by_cases hkj : k = j
      · subst hkj
        simp only [if_true]
        obtain ⟨t, e⟩ := h.one k hk
        have e9 : R k (l k) = p * t + 1 := by omega
        refine ⟨-(t * R k i), ?_⟩
        rw [e9, Int.add_mul, Int.one_mul, Int.mul_neg, Int.mul_assoc]; omega
      · simp only [hkj, if_false]
        obtain ⟨t, e⟩ := h.oth k j hk hj hkj
        exact ⟨-(t * R k i), by rw [e, Int.mul_neg, Int.mul_assoc]; omega⟩
    have h4 : p ∣ sumN (fun k => (w (l k) - (v (l k) + a * R j (l k))) * R k i) m :=
      sumN_dvd fun k hk => Int.dvd_mul_of_dvd_left (g (l k) (h.inn k hk))
    obtain ⟨t3, e3⟩ := h3
    obtain ⟨t4, e4⟩ := h4
    have e5 : sumN (fun k => (w (l k) - (v (l k) + a * R j (l k))) * R k i) m = sumN (fun k => w (l k) * R k i) m - (sumN (fun k => v (l k) * R k i) m + a * sumN (fun k => R j (l k) * R k i) m) := by
      rw [sumN_mul, sumN_add, sumN_sub]
      exact sumN_congr fun k _ => by simp only [Int.sub_mul, Int.add_mul, Int.mul_assoc]
    refine ⟨t1 + t2 + a * t3 - t4, ?_⟩
    have e6 : a * (R j i - sumN (fun k => R j (l k) * R k i) m) = a * (p * t3) := by rw [e3]
    rw [Int.mul_sub] at e6
    have e7 : p * (t1 + t2 + a * t3 - t4) = p * t1 + p * t2 + a * (p * t3) - p * t4 := by
      rw [Int.mul_sub, Int.mul_add, Int.mul_add, Int.mul_left_comm]
    rw [e7, ← e1, ← e2, ← e6, ← e4, e5]
    simp only
    omega

/-- the first place of what is made of the rows is a lead -/
theorem Red.lead (h : Red p n m R l) {v : Nat → Int} (g : Sp p n (Rw m R) v) {c : Nat} (hc : c < n) (h1 : ¬ p ∣ v c) (h0 : ∀ i, i < c → p ∣ v i) : ∃ k, k < m ∧ l k = c := by
  apply Classical.byContradiction
  intro hn
  apply h1
  obtain ⟨t, e⟩ := h.proj g c hc
  have : p ∣ sumN (fun k => v (l k) * R k c) m := by
    refine sumN_dvd fun k hk => ?_
    by_cases h2 : l k < c
    · exact Int.dvd_mul_of_dvd_left (h0 _ h2)
    · have h3 : l k ≠ c := fun e => hn ⟨k, hk, e⟩
      exact Int.dvd_mul_of_dvd_right (h.low k c hk (by omega))
  obtain ⟨s, f⟩ := this
  exact ⟨t + s, by rw [Int.mul_add, ← e, ← f]; simp only; omega⟩

theorem not_dvd_one (hp : 1 < p) {x : Int} (h : p ∣ x - 1) : ¬ p ∣ x := fun g => by
  have h2 : p ∣ x - (x - 1) := Int.dvd_sub g h
  have e : x - (x - 1) = 1 := by omega
  rw [e] at h2
  have := Int.le_of_dvd (by omega) h2
  omega

theorem rise_same {m m' : Nat} {l l' : Nat → Nat} (u : ∀ j k, j < k → k < m → l j < l k) (u' : ∀ j k, j < k → k < m' → l' j < l' k)
    (a : ∀ k, k < m → ∃ j, j < m' ∧ l' j = l k) (b : ∀ k, k < m' → ∃ j, j < m ∧ l j = l' k) (k : Nat) : k < m → k < m' ∧ l k = l' k := by
  induction k using Nat.strongRecOn with
  | ind k ih =>
    intro hk
    have mono : ∀ {m : Nat} {l : Nat → Nat}, (∀ j k, j < k → k < m → l j < l k) → ∀ {j k}, j ≤ k → k < m → l j ≤ l k := by
      intro m l u j k hjk hk
      by_cases e : j = k
      · subst e; exact Nat.le_refl _
      · exact Nat.le_of_lt (u j k (by omega) hk)
    obtain ⟨j, hj, e⟩ := a k hk
    have hkj : k ≤ j := by
      apply Classical.byContradiction; intro h
      have h1 := ih j (by omega) (by omega)
      have h2 := u j k (by omega) hk
      omega
    have hk' : k < m' := by omega
    obtain ⟨i, hi, e'⟩ := b k hk'
    have hki : k ≤ i := by
      apply Classical.byContradiction; intro h
      have h1 := ih i (by omega) (by omega)
      have h2 := u' i k (by omega) hk'
      omega
    have h3 := mono u hki hi
    have h4 := mono u' hkj hj
    exact ⟨hk', by omega⟩

/-- two reduced lists of the same span are the same -/
theorem Red.same (hp : 1 < p) (h : Red p n m R l) (h' : Red p n m' R' l') (a : ∀ k, k < m → Sp p n (Rw m' R') (R k)) (b : ∀ k, k < m' → Sp p n (Rw m R) (R' k)) :
    m = m' ∧ ∀ k, k < m → l k = l' k ∧ Cg p n (R k) (R' k) := by
  have A : ∀ k, k < m → ∃ j, j < m' ∧ l' j = l k := fun k hk => h'.lead (a k hk) (h.inn k hk) (not_dvd_one hp (h.one k hk)) (fun i hi => h.low k i hk hi)
  have B : ∀ k, k < m' → ∃ j, j < m ∧ l j = l' k := fun k hk => h.lead (b k hk) (h'.inn k hk) (not_dvd_one hp (h'.one k hk)) (fun i hi => h'.low k i hk hi)
  have S := rise_same h.up h'.up A B
  have S' := rise_same h'.up h.up B A
  have em : m = m' := by
    apply Classical.byContradiction; intro hne
    by_cases hlt : m < m'
    · have := (S' m hlt).1; omega
    · have := (S m' (by omega)).1; omega
  refine ⟨em, fun k hk => ⟨(S k hk).2, ?_⟩⟩
  subst em
  have g := h.proj (b k hk)
  refine (g.trans fun i hi => ?_).symm
  have e : R k i = sumN (fun j => if j = k then R k i else 0) m := by
    rw [sumN_one (i := k) hk (fun j _ hne => by simp [hne])]; simp
  rw [e, sumN_sub]
  refine sumN_dvd fun j hj => ?_
  rw [(S j hj).2]
  by_cases hkj : j = k
  · subst hkj
    simp only [if_true]
    obtain ⟨t, e⟩ := h'.one j hj
    have e9 : R' j (l' j) = p * t + 1 := by omega
    refine ⟨t * R j i, ?_⟩
    rw [e9, Int.add_mul, Int.one_mul, Int.mul_assoc]; omega
  · simp only [hkj, if_false]
    obtain ⟨t, e⟩ := h'.oth j k hj hk hkj
    exact ⟨t * R j i, by rw [e, Int.mul_assoc]; omega⟩

end Go.Proofs.Ythecjjnieojjoaa.H
