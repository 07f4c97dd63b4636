/- Reduced lists: one more vector, and rows cleared column by column. Plain arithmetic. -/
import Derived.Test.YthecjjnieojjoaaHRL
namespace Go.Proofs.Ythecjjnieojjoaa.H
set_option linter.unusedVariables false
set_option linter.unusedSimpArgs false
open Go Go.RowKit Go.Proofs.Ythecjjnieojjoaa.Hy
set_option linter.unusedVariables false
set_option linter.unusedSimpArgs false

section
variable {p : Int} {n m : Nat} {R : Nat → Nat → Int} {l : Nat → Nat}

def Sub (p : Int) (n : Nat) (G H : (Nat → Int) → Prop) : Prop := ∀ r, G r → Sp p n H r
def Un (G : (Nat → Int) → Prop) (v : Nat → Int) : (Nat → Int) → Prop := fun r => G r ∨ r = v

theorem Sub.trans {G H J : (Nat → Int) → Prop} (a : Sub p n G H) (b : Sub p n H J) : Sub p n G J := fun r h => (a r h).mono b
theorem Sub.refl {G : (Nat → Int) → Prop} : Sub p n G G := fun r h => .of h
theorem Sub.un {G H : (Nat → Int) → Prop} {v : Nat → Int} (a : Sub p n G H) (b : Sp p n H v) : Sub p n (Un G v) H := fun r h => by
  rcases h with h | rfl
  · exact a r h
  · exact b
theorem Sub.left {G : (Nat → Int) → Prop} {v : Nat → Int} : Sub p n G (Un G v) := fun r h => .of (.inl h)
theorem dvd_of_eq {a b : Int} (h : p ∣ a) (e : b = a) : p ∣ b := e ▸ h

/-- R k less what it has of w at the lead of w -/
def lessW (R : Nat → Nat → Int) (w : Nat → Int) (a : Nat) (k : Nat) : Nat → Int := fun i => R k i - R k a * w i
def ixT (t k : Nat) : Nat := if k < t then k else k - 1
def putR (R : Nat → Nat → Int) (w : Nat → Int) (a t : Nat) (k : Nat) : Nat → Int := if k = t then w else lessW R w a (ixT t k)
def putL (l : Nat → Nat) (a t : Nat) (k : Nat) : Nat := if k = t then a else l (ixT t k)

structure Ins (p : Int) (n m : Nat) (R : Nat → Nat → Int) (l : Nat → Nat) (w : Nat → Int) (a t : Nat) : Prop where
  red : Red p n m R l
  an : a < n
  w1 : p ∣ w a - 1
  wlow : ∀ i, i < a → p ∣ w i
  wl : ∀ k, k < m → p ∣ w (l k)
  tm : t ≤ m
  h1 : ∀ j, j < t → l j < a
  h2 : ∀ j, t ≤ j → j < m → a < l j

theorem Red.cg {R' : Nat → Nat → Int} (h : Red p n m R l) (g : ∀ k, k < m → Cg p n (R' k) (R k)) : Red p n m R' l := by
  have key : ∀ k i, k < m → i < n → ∀ x, p ∣ R k i - x → p ∣ R' k i - x := fun k i hk hi x hx => by
    have := Int.dvd_add (g k hk i hi) hx
    exact dvd_of_eq this (by omega)
  refine ⟨h.inn, h.up, fun k hk => key k _ hk (h.inn k hk) 1 (h.one k hk), fun j k hj hk hne => ?_, fun k i hk hi => ?_⟩
  · have := key k (l j) hk (h.inn j hj) 0 (by rw [Int.sub_zero]; exact h.oth j k hj hk hne)
    rwa [Int.sub_zero] at this
  · have := key k i hk (by have := h.inn k hk; omega) 0 (by rw [Int.sub_zero]; exact h.low k i hk hi)
    rwa [Int.sub_zero] at this

variable {w : Nat → Int} {a t : Nat}

theorem Ins.f1 (h : Ins p n m R l w a t) {j : Nat} (hj : j < m) : p ∣ lessW R w a j (l j) - 1 := by
  have := Int.dvd_sub (h.red.one j hj) (Int.dvd_mul_of_dvd_right (b := R j a) (h.wl j hj))
  exact dvd_of_eq this (by unfold lessW; omega)
theorem Ins.f2 (h : Ins p n m R l w a t) {i j : Nat} (hi : i < m) (hj : j < m) (hne : i ≠ j) : p ∣ lessW R w a j (l i) :=
  Int.dvd_sub (h.red.oth i j hi hj hne) (Int.dvd_mul_of_dvd_right (h.wl i hi))
theorem Ins.f3 (h : Ins p n m R l w a t) {j : Nat} : p ∣ lessW R w a j a := by
  have := Int.dvd_mul_of_dvd_right (b := - R j a) h.w1
  refine dvd_of_eq this ?_
  unfold lessW
  rw [Int.mul_sub, Int.neg_mul, Int.mul_one]; omega
theorem Ins.f4 (h : Ins p n m R l w a t) {i j : Nat} (hj : j < m) (hi : i < l j) : p ∣ lessW R w a j i := by
  by_cases hjt : j < t
  · exact Int.dvd_sub (h.red.low j i hj hi) (Int.dvd_mul_of_dvd_right (h.wlow i (by have := h.h1 j hjt; omega)))
  · exact Int.dvd_sub (h.red.low j i hj hi) (Int.dvd_mul_of_dvd_left (h.red.low j a hj (h.h2 j (by omega) hj)))

theorem Ins.put (h : Ins p n m R l w a t) : Red p n (m + 1) (putR R w a t) (putL l a t) := by
  have ht := h.tm
  have ix : ∀ k, k < m + 1 → k ≠ t → ixT t k < m := fun k hk hne => by unfold ixT; split <;> omega
  refine ⟨fun k hk => ?_, fun j k hjk hk => ?_, fun k hk => ?_, fun j k hj hk hne => ?_, fun k i hk hi => ?_⟩
  · unfold putL; split
    · exact h.an
    · exact h.red.inn _ (ix k hk ‹_›)
  · unfold putL
    by_cases e : j = t
    · have e2 : k ≠ t := by omega
      rw [if_pos e, if_neg e2]
      refine h.h2 _ ?_ (ix k hk e2)
      unfold ixT; split <;> omega
    · rw [if_neg e]
      by_cases e2 : k = t
      · rw [if_pos e2]
        have : ixT t j = j := by unfold ixT; rw [if_pos (by omega)]
        rw [this]
        exact h.h1 j (by omega)
      · rw [if_neg e2]
        refine h.red.up _ _ ?_ (ix k hk e2)
        unfold ixT; split <;> split <;> omega
  · unfold putL putR
    by_cases e : k = t
    · rw [if_pos e, if_pos e]; exact h.w1
    · rw [if_neg e, if_neg e]; exact h.f1 (ix k hk e)
  · unfold putL putR
    by_cases e : j = t
    · have e2 : k ≠ t := by omega
      rw [if_pos e, if_neg e2]; exact h.f3
    · rw [if_neg e]
      by_cases e2 : k = t
      · rw [if_pos e2]; exact h.wl _ (ix j hj e)
      · rw [if_neg e2]
        refine h.f2 (ix j hj e) (ix k hk e2) ?_
        unfold ixT; split <;> split <;> omega
  · unfold putL at hi
    unfold putR
    by_cases e : k = t
    · rw [if_pos e] at hi
      rw [if_pos e]; exact h.wlow i hi
    · rw [if_neg e] at hi
      rw [if_neg e]; exact h.f4 (ix k hk e) hi

theorem Ins.sub1 (h : Ins p n m R l w a t) : Sub p n (Rw (m + 1) (putR R w a t)) (Un (Rw m R) w) := by
  rintro r ⟨k, hk, rfl⟩
  have ht := h.tm
  unfold putR
  by_cases e : k = t
  · rw [if_pos e]; exact .of (.inr rfl)
  · rw [if_neg e]
    have hk' : ixT t k < m := by unfold ixT; split <;> omega
    refine .add (- R (ixT t k) a) (.of (.inl ⟨_, hk', rfl⟩)) (.inr rfl) (Cg.of_eq fun i _ => ?_)
    unfold lessW
    rw [Int.neg_mul]; omega

theorem Ins.sub2 (h : Ins p n m R l w a t) : Sub p n (Un (Rw m R) w) (Rw (m + 1) (putR R w a t)) := by
  have ht := h.tm
  have hw : Rw (m + 1) (putR R w a t) w := ⟨t, by omega, by unfold putR; rw [if_pos rfl]⟩
  rintro r (⟨k, hk, rfl⟩ | rfl)
  · have hf : Rw (m + 1) (putR R w a t) (lessW R w a k) := by
      refine ⟨if k < t then k else k + 1, by split <;> omega, ?_⟩
      unfold putR ixT
      by_cases e : k < t
      · simp only [if_pos e]; rw [if_neg (by omega)]
      · simp only [if_neg e]; rw [if_neg (by omega), if_neg (by omega)]; rfl
    refine .add (R k a) (.of hf) hw (Cg.of_eq fun i _ => ?_)
    unfold lessW; omega
  · exact .of hw

/-! rows cleared column by column -/

structure Elim (p : Int) (N c d : Nat) (S : Nat → Nat → Int) (pl : Nat → Nat) : Prop where
  dN : d ≤ N
  plc : ∀ k, k < d → pl k < c
  up : ∀ j k, j < k → k < d → pl j < pl k
  one : ∀ k, k < d → p ∣ S k (pl k) - 1
  oth : ∀ j k, j < d → k < N → j ≠ k → p ∣ S k (pl j)
  low : ∀ k i, k < d → i < pl k → p ∣ S k i
  zer : ∀ k i, d ≤ k → k < N → i < c → p ∣ S k i

variable {N c d : Nat} {S S' : Nat → Nat → Int} {pl : Nat → Nat}

theorem Elim.init : Elim p N 0 0 S pl := ⟨by omega, fun k h => by omega, fun _ _ _ h => by omega, fun k h => by omega, fun j k h => by omega, fun k i h => by omega, fun k i _ _ h => by omega⟩

theorem Elim.skip (h : Elim p N c d S pl) (g : ∀ k, d ≤ k → k < N → p ∣ S k c) : Elim p N (c + 1) d S pl :=
  ⟨h.dN, fun k hk => by have := h.plc k hk; omega, h.up, h.one, h.oth, h.low, fun k i h1 h2 h3 => by
    by_cases e : i = c
    · subst e; exact g k h1 h2
    · exact h.zer k i h1 h2 (by omega)⟩

def swapR (S : Nat → Nat → Int) (d e : Nat) : Nat → Nat → Int := fun k => if k = e then S d else if k = d then S e else S k

theorem Elim.swap (h : Elim p N c d S pl) {e : Nat} (he : d ≤ e) (hN : e < N) : Elim p N c d (swapR S d e) pl := by
  have lo : ∀ k, k < d → swapR S d e k = S k := fun k hk => by unfold swapR; rw [if_neg (by omega), if_neg (by omega)]
  have hi : ∀ k, d ≤ k → k < N → ∃ k', d ≤ k' ∧ k' < N ∧ swapR S d e k = S k' := fun k h1 h2 => by
    unfold swapR
    by_cases e1 : k = e
    · exact ⟨d, by omega, by omega, by rw [if_pos e1]⟩
    · by_cases e2 : k = d
      · exact ⟨e, he, hN, by rw [if_neg e1, if_pos e2]⟩
      · exact ⟨k, h1, h2, by rw [if_neg e1, if_neg e2]⟩
  refine ⟨h.dN, h.plc, h.up, fun k hk => by rw [lo k hk]; exact h.one k hk, fun j k hj hk hne => ?_, fun k i hk hi' => by rw [lo k hk]; exact h.low k i hk hi', fun k i h1 h2 h3 => ?_⟩
  · by_cases hkd : k < d
    · rw [lo k hkd]; exact h.oth j k hj hk hne
    · obtain ⟨k', g1, g2, g3⟩ := hi k (by omega) hk
      rw [g3]; exact h.oth j k' hj g2 (by omega)
  · obtain ⟨k', g1, g2, g3⟩ := hi k h1 h2
    rw [g3]; exact h.zer k' i g1 g2 h3

theorem Elim.step (h : Elim p N c d S pl) (hd : d < N) {n : Nat} (hc : c < n) {b : Int} (hb : p ∣ b * S d c - 1) (hS : Cg p n (S' d) fun i => b * S d i) (hO : ∀ k, k < N → k ≠ d → Cg p n (S' k) fun i => S k i - S k c * S' d i) :
    Elim p N (c + 1) (d + 1) S' (fun k => if k = d then c else pl k) := by
  have d1 : p ∣ S' d c - 1 := by
    have := Int.dvd_add (hS c hc) hb
    exact dvd_of_eq this (by simp only; omega)
  have dz : ∀ i, i < n → p ∣ S d i → p ∣ S' d i := fun i hi hz => by
    have := Int.dvd_add (hS i hi) (Int.dvd_mul_of_dvd_right (b := b) hz)
    exact dvd_of_eq this (by simp only; omega)
  have kz : ∀ k i, k < N → k ≠ d → i < n → p ∣ S k i → p ∣ S d i → p ∣ S' k i := fun k i hk hne hi h1 h2 => by
    have := Int.dvd_add (hO k hk hne i hi) (Int.dvd_sub h1 (Int.dvd_mul_of_dvd_right (b := S k c) (dz i hi h2)))
    exact dvd_of_eq this (by simp only; omega)
  have kc : ∀ k, k < N → k ≠ d → p ∣ S' k c := fun k hk hne => by
    have h2 := Int.dvd_mul_of_dvd_right (b := - S k c) d1
    have := Int.dvd_add (hO k hk hne c hc) h2
    refine dvd_of_eq this ?_
    simp only [Int.mul_sub, Int.neg_mul, Int.mul_one]; omega
  refine ⟨by omega, fun k hk => ?_, fun j k hjk hk => ?_, fun k hk => ?_, fun j k hj hk hne => ?_, fun k i hk hi => ?_, fun k i h1 h2 h3 => ?_⟩
  · split
    · omega
    · have := h.plc k (by omega); omega
  · skip
    rw [if_neg (show ¬ j = d by omega)]
    by_cases e : k = d
    · rw [if_pos e]; exact h.plc j (by omega)
    · rw [if_neg e]; exact h.up j k hjk (by omega)
  · skip
    by_cases e : k = d
    · subst e; rw [if_pos rfl]; exact d1
    · rw [if_neg e]
      have hk' : k < d := by omega
      have hp := h.plc k hk'
      have h1 := h.zer d (pl k) (by omega) hd hp
      have h2 := Int.dvd_add (hO k (by omega) e (pl k) (by omega)) (Int.dvd_sub (h.one k hk') (Int.dvd_mul_of_dvd_right (b := S k c) (dz (pl k) (by omega) h1)))
      exact dvd_of_eq h2 (by simp only; omega)
  · skip
    by_cases e : j = d
    · subst e; rw [if_pos rfl]; exact kc k hk (by omega)
    · rw [if_neg e]
      have hj' : j < d := by omega
      have hp := h.plc j hj'
      have h1 := h.zer d (pl j) (by omega) hd hp
      by_cases e2 : k = d
      · subst e2; exact dz _ (by omega) h1
      · exact kz k _ hk e2 (by omega) (h.oth j k hj' hk hne) h1
  · skip
    by_cases e : k = d
    · subst e
      rw [if_pos rfl] at hi
      exact dz i (by omega) (h.zer k i (by omega) hd hi)
    · rw [if_neg e] at hi
      have hp := h.plc k (by omega)
      exact kz k i (by omega) e (by omega) (h.low k i (by omega) hi) (h.zer d i (by omega) hd (by omega))
  · by_cases e : i = c
    · subst e; exact kc k h2 (by omega)
    · exact kz k i h2 (by omega) (by omega) (h.zer k i (by omega) h2 (by omega)) (h.zer d i (by omega) hd (by omega))

theorem Elim.done (h : Elim p N c d S pl) {n : Nat} (hcn : c ≤ n) (hc : c = n ∨ d = N) : Red p n d S pl ∧ Sub p n (Rw N S) (Rw d S) ∧ Sub p n (Rw d S) (Rw N S) := by
  have hdN := h.dN
  refine ⟨⟨fun k hk => by have := h.plc k hk; omega, h.up, h.one, fun j k hj hk hne => h.oth j k hj (by omega) hne, h.low⟩, ?_, ?_⟩
  · rintro r ⟨k, hk, rfl⟩
    by_cases hkd : k < d
    · exact .of ⟨k, hkd, rfl⟩
    · refine .zero fun i hi => ?_
      rw [Int.sub_zero]
      rcases hc with rfl | rfl
      · exact h.zer k i (by omega) hk hi
      · omega
  · rintro r ⟨k, hk, rfl⟩
    exact .of ⟨k, by omega, rfl⟩

theorem swap_sub {e : Nat} (hd : d < N) (he : e < N) : Sub p n (Rw N (swapR S d e)) (Rw N S) ∧ Sub p n (Rw N S) (Rw N (swapR S d e)) := by
  constructor
  · rintro r ⟨k, hk, rfl⟩
    unfold swapR
    split
    · exact .of ⟨d, hd, rfl⟩
    · split
      · exact .of ⟨e, he, rfl⟩
      · exact .of ⟨k, hk, rfl⟩
  · rintro r ⟨k, hk, rfl⟩
    by_cases e1 : k = d
    · subst e1; exact .of ⟨e, he, by unfold swapR; rw [if_pos rfl]⟩
    · by_cases e2 : k = e
      · subst e2; exact .of ⟨d, hd, by unfold swapR; rw [if_neg (by omega), if_pos rfl]⟩
      · exact .of ⟨k, hk, by unfold swapR; rw [if_neg e2, if_neg e1]⟩

theorem step_sub (hd : d < N) {b : Int} (hb : p ∣ b * S d c - 1) (hS : Cg p n (S' d) fun i => b * S d i) (hO : ∀ k, k < N → k ≠ d → Cg p n (S' k) fun i => S k i - S k c * S' d i) :
    Sub p n (Rw N S') (Rw N S) ∧ Sub p n (Rw N S) (Rw N S') := by
  have a1 : Sp p n (Rw N S) (S' d) := (Sp.times b (.of ⟨d, hd, rfl⟩)).cg hS
  have a2 : Sp p n (Rw N S') (S d) := by
    refine (Sp.times (S d c) (.of (r := S' d) ⟨d, hd, rfl⟩)).cg ?_
    -- S d i  ≡  S d c * (b * S d i)
    refine Cg.symm ((hS.mul (S d c)).trans fun i hi => ?_)
    have := Int.dvd_mul_of_dvd_left (c := S d i) hb
    refine dvd_of_eq this ?_
    simp only [Int.sub_mul, Int.one_mul]
    rw [Int.mul_comm b (S d c), Int.mul_assoc]
  constructor
  · rintro r ⟨k, hk, rfl⟩
    by_cases e : k = d
    · subst e; exact a1
    · refine ((Sp.of (r := S k) ⟨k, hk, rfl⟩).plus (a1.times (- S k c))).cg ((hO k hk e).trans (Cg.of_eq fun i _ => ?_))
      simp only [Int.neg_mul]; omega
  · rintro r ⟨k, hk, rfl⟩
    by_cases e : k = d
    · subst e; exact a2
    · refine ((Sp.of (r := S' k) ⟨k, hk, rfl⟩).plus (Sp.times (S k c) (.of (r := S' d) ⟨d, hd, rfl⟩))).cg fun i hi => ?_
      obtain ⟨x, ex⟩ := hO k hk e i hi
      exact ⟨-x, by rw [Int.mul_neg, ← ex]; simp only; omega⟩

end
end Go.Proofs.Ythecjjnieojjoaa.H
