/- The law's own way to a reduced list: a vector put in, all vectors of a list. -/
import Derived.Test.YthecjjnieojjoaaHRS
namespace Go.Proofs.Ythecjjnieojjoaa.H
set_option linter.unusedVariables false
set_option linter.unusedSimpArgs false
open Go Go.RowKit Go.Proofs.Ythecjjnieojjoaa.Hy
set_option linter.unusedVariables false
set_option linter.unusedSimpArgs false
set_option maxRecDepth 100000

section
variable {ρ : Type} {p : Int} {m : Nat} {g : Nat → Int} {l : Nat → Nat}

theorem Red.le_lead {n : Nat} {R : Nat → Nat → Int} (h : Red p n m R l) : ∀ k, k < m → k ≤ l k
  | 0, _ => Nat.zero_le _
  | k + 1, hk => by
    have h1 := h.le_lead k (by omega)
    have h2 := h.up k (k + 1) (by omega) hk
    omega
theorem Red.many {n : Nat} {R : Nat → Nat → Int} (h : Red p n m R l) : m ≤ n := by
  cases m with
  | zero => omega
  | succ m =>
    have h1 := h.le_lead m (by omega)
    have h2 := h.inn m (by omega)
    omega

theorem rw8_lt {o k z : Nat} {g f : Nat → Int} (h : k < o) (hz : z < 8) : rw8 (joinN (o * 8) g f) k z = rw8 g k z := by
  unfold rw8 joinN; rw [if_pos (by omega)]
theorem rw8_eq {o z : Nat} {g f : Nat → Int} : rw8 (joinN (o * 8) g f) o z = f z := by
  unfold rw8 joinN; rw [if_neg (by omega)]; congr 1; omega

/-- row k less what it has of w -/
def lesP (p : Int) (g w : Nat → Int) (a k : Nat) : Nat → Int := addV p (rw8 g k) w (- rw8 g k a)

/-- after i rows: how many, whether w is placed, the rows -/
def insS (p : Int) (g w : Nat → Int) (a : Nat) : Nat → Nat × Bool × (Nat → Int)
  | 0 => (0, false, fun _ => 0)
  | i + 1 => let s := insS p g w a i
    if (!s.2.1 && decide (a < first8 (rw8 g i))) = true then (s.1 + 1 + 1, true, joinN ((s.1 + 1) * 8) (joinN (s.1 * 8) s.2.2 w) (lesP p g w a i))
    else (s.1 + 1, s.2.1, joinN (s.1 * 8) s.2.2 (lesP p g w a i))

def putE (p : Int) (g w : Nat → Int) (a t k : Nat) : Nat → Int := if k = t then w else lesP p g w a (ixT t k)

theorem insS_le {w : Nat → Int} {a : Nat} : ∀ {i : Nat}, (insS p g w a i).1 ≤ 2 * i
  | 0 => by simp [insS]
  | i + 1 => by
    have := insS_le (w := w) (a := a) (i := i)
    simp only [insS]
    split
    · simp only; omega
    · simp only; omega

theorem insS_ok (hp : 1 < p) (h : RedG p m g l) {w : Nat → Int} {a : Nat} (ha : a < 8) (w1 : p ∣ w a - 1) (wl : ∀ k, k < m → p ∣ w (l k)) : ∀ i, i ≤ m →
    ((insS p g w a i).2.1 = false → (insS p g w a i).1 = i ∧ (∀ j, j < i → l j < a) ∧ ∀ k z, k < i → z < 8 → rw8 (insS p g w a i).2.2 k z = lesP p g w a k z) ∧
    ((insS p g w a i).2.1 = true → (insS p g w a i).1 = i + 1 ∧ ∃ t, t < i ∧ (∀ j, j < t → l j < a) ∧ a < l t ∧ ∀ k z, k < i + 1 → z < 8 → rw8 (insS p g w a i).2.2 k z = putE p g w a t k z)
  | 0, _ => ⟨fun _ => ⟨rfl, fun j hj => by omega, fun k z hk => by omega⟩, fun h => by simp [insS] at h⟩
  | i + 1, hi => by
    obtain ⟨i1, i2⟩ := insS_ok hp h ha w1 wl i (by omega)
    have hf := h.first hp (show i < m by omega)
    have hne : l i ≠ a := fun e => not_dvd_one hp w1 (e ▸ wl i (by omega))
    simp only [insS]
    by_cases hpl : (insS p g w a i).2.1 = true
    · obtain ⟨e1, t, ht, h3, h4, h5⟩ := i2 hpl
      have hc : ¬ ((!(insS p g w a i).2.1 && decide (a < first8 (rw8 g i))) = true) := by simp [hpl]
      rw [if_neg hc]
      refine ⟨fun e => (by rw [hpl] at e; cases e), fun _ => ⟨by simp only; omega, t, by omega, h3, h4, fun k z hk hz => ?_⟩⟩
      simp only
      by_cases e : k = i + 1
      · subst e
        rw [e1, rw8_eq]
        unfold putE ixT
        rw [if_neg (by omega), if_neg (by omega)]; rfl
      · rw [rw8_lt (by omega) hz]; exact h5 k z (by omega) hz
    · have hpl' : (insS p g w a i).2.1 = false := by simpa using hpl
      obtain ⟨e1, h3, h5⟩ := i1 hpl'
      by_cases hgt : a < l i
      · have hc : (!(insS p g w a i).2.1 && decide (a < first8 (rw8 g i))) = true := by simp [hpl', hf, hgt]
        rw [if_pos hc]
        refine ⟨fun e => by simp at e, fun _ => ⟨by simp only; omega, i, by omega, h3, hgt, fun k z hk hz => ?_⟩⟩
        simp only
        unfold putE ixT
        rw [e1]
        by_cases e : k = i + 1
        · subst e
          rw [rw8_eq, if_neg (by omega), if_neg (by omega)]; rfl
        · rw [rw8_lt (by omega) hz]
          by_cases e' : k = i
          · subst e'; rw [rw8_eq, if_pos rfl]
          · rw [rw8_lt (by omega) hz, if_neg e', if_pos (by omega)]; exact h5 k z (by omega) hz
      · have hc : ¬ ((!(insS p g w a i).2.1 && decide (a < first8 (rw8 g i))) = true) := by simp [hpl', hf, hgt]
        rw [if_neg hc]
        refine ⟨fun _ => ⟨by simp only; omega, fun j hj => ?_, fun k z hk hz => ?_⟩, fun e => (by rw [hpl'] at e; cases e)⟩
        · by_cases e : j = i
          · subst e; omega
          · exact h3 j (by omega)
        · simp only
          by_cases e : k = i
          · subst e; rw [e1, rw8_eq]
          · rw [rw8_lt (by omega) hz]; exact h5 k z (by omega) hz

/-- what putting v in makes -/
def putW (p : Int) (u : Nat → Int) : Nat → Int := addV p (fun _ => 0) u (invN p (u (first8 u)))
def putM (p : Int) (m : Nat) (g v : Nat → Int) : Nat × (Nat → Int) :=
  let u := byS p g v m
  if eqN 8 u (fun _ => 0) = true then (m, g)
  else
    let s := insS p g (putW p u) (first8 u) m
    if s.2.1 = true then (s.1, s.2.2) else (s.1 + 1, joinN (s.1 * 8) s.2.2 (putW p u))

theorem first8_nz {u : Nat → Int} (h : ¬ eqN 8 u (fun _ => 0) = true) : first8 u < 8 := by
  apply Classical.byContradiction
  intro hn
  apply h
  unfold eqN
  rw [decide_eq_true_eq]
  intro j hj
  exact first8_low (v := u) (i := j) (by omega)

theorem spec_put (hp : isP p = true) (h : RedG p m g l) {v : Nat → Int} (hv : inP p v) (X : Nat → (Nat → Int) → Option ρ) {c : Nat} : spec_l01Put_su_v2 6000 (fun r => X r g) X p m v c (fun z => g (0 + z)) = X (putM p m g v).1 (putM p m g v).2 := by
  have hr := isP_range hp
  have hm := h.red.many
  have eg : (fun z => g (0 + z)) = g := by funext z; rw [Nat.zero_add]
  rw [eg]
  unfold spec_l01Put_su_v2 spec_l01Put_su_v2.s
  rw [show (fun z => g (0 + z)) = g from eg]
  rw [spec_by _ (by omega) (by omega) h hv (by omega)]
  have hu := byS_in (p := p) (by omega) (g := g) hv (k := m)
  unfold putM
  simp only [spec_l01Zero]
  by_cases e : eqN 8 (byS p g v m) (fun _ => 0) = true
  · simp only [e, if_true]
  · have hf := first8_nz e
    have hnz := first8_at hf
    have hub := hu _ hf
    have h3 : (0 : Int) ≤ ((first8 (byS p g v m) : Nat) : Int) ∧ ((first8 (byS p g v m) : Nat) : Int) < 8 := by omega
    simp only [e, if_false, spec_first, h3, and_self, if_true, Int.toNat_natCast, Nat.mul_one, Bool.false_eq_true]
    obtain ⟨v1, v2, v3⟩ := invN_ok hp (x := byS p g v m (first8 (byS p g v m))) (by omega) (by omega)
    rw [spec_inverse _ hp (by omega) (by omega)]
    rw [wrap64_id (by omega) (by omega), spec_add _ (by omega) (by omega) (fun i _ => by omega) (fun i hi => by have := hu i hi; omega) (by omega) (by omega)]
    have hw : inP p (putW p (byS p g v m)) := addV_in (by omega)
    have main := loop_st (l := fun N (i : Nat) (s : Nat × Bool × (Nat → Int)) => spec_l01Put_su_v2.l0 6000 (fun r => X r g) X p m g ((first8 (byS p g v m) : Nat) : Int) (putW p (byS p g v m)) (fun ov18 ov19 ov20 => spec_l01Put_su_v2.a0_0 6000 (fun r => X r g) X (putW p (byS p g v m)) ov18 ov19 ov20) N s.1 s.2.1 (i : Int) s.2.2) (n := m)
      (out := if (insS p g (putW p (byS p g v m)) (first8 (byS p g v m)) m).2.1 = true then X (insS p g (putW p (byS p g v m)) (first8 (byS p g v m)) m).1 (insS p g (putW p (byS p g v m)) (first8 (byS p g v m)) m).2.2 else X ((insS p g (putW p (byS p g v m)) (first8 (byS p g v m)) m).1 + 1) (joinN ((insS p g (putW p (byS p g v m)) (first8 (byS p g v m)) m).1 * 8) (insS p g (putW p (byS p g v m)) (first8 (byS p g v m)) m).2.2 (putW p (byS p g v m))))
      (insS p g (putW p (byS p g v m)) (first8 (byS p g v m))) (fun q i hi => ?_) (fun q => ?_) m 0 6000 (by omega) (by omega)
    · refine Eq.trans main ?_
      split <;> rfl
    · have hle := insS_le (p := p) (g := g) (i := i) (w := putW p (byS p g v m)) (a := first8 (byS p g v m))
      generalize hs : insS p g (putW p (byS p g v m)) (first8 (byS p g v m)) i = s at hle
      obtain ⟨o, pl, gg⟩ := s
      simp only at hle
      simp only [insS, hs, spec_l01Put_su_v2.l0, spec_l01Put_su_v2.b0]
      have h1 : (i : Int) < (m : Int) := by omega
      have h2 : (0 : Int) ≤ i ∧ (i : Int) < (m : Int) := by omega
      have b1 : (o + 1) * 8 ≤ 140737488355328 := by omega
      have b2 : (o + 1 + 1) * 8 ≤ 140737488355328 := by omega
      have er : (fun z => g (i * 8 + z)) = rw8 g i := rfl
      have hri := h.ent i hi
      have hra := hri _ hf
      have ek : IntKind.i64.wrap (0 - IntKind.i64.wrap (g (i * 8 + first8 (byS p g v m)))) = - rw8 g i (first8 (byS p g v m)) := by
        show IntKind.i64.wrap (0 - IntKind.i64.wrap (rw8 g i (first8 (byS p g v m)))) = _
        rw [wrap64_id (x := rw8 g i (first8 (byS p g v m))) (by omega) (by omega), wrap64_id (by omega) (by omega)]; omega
      have ea : ∀ Y : (Nat → Int) → Option ρ, spec_l01Add 6000 Y p (rw8 g i) (putW p (byS p g v m)) (- rw8 g i (first8 (byS p g v m))) = Y (lesP p g (putW p (byS p g v m)) (first8 (byS p g v m)) i) := fun Y =>
        spec_add _ (by omega) (by omega) (fun j hj => by have := hri j hj; omega) (fun j hj => by have := hw j hj; omega) (by omega) (by omega)
      simp only [h1, h2, h3, b1, b2, decide_true, if_true, and_self, Int.toNat_natCast, Nat.zero_add, Nat.mul_one, nx (show i < 100000 by omega), er, ek, ea, spec_first]
      cases pl
      · by_cases hgt : first8 (byS p g v m) < first8 (rw8 g i)
        · have hgt' : ((first8 (rw8 g i) : Nat) : Int) > ((first8 (byS p g v m) : Nat) : Int) := by omega
          simp [hgt, hgt']
        · have hgt' : ¬ ((first8 (rw8 g i) : Nat) : Int) > ((first8 (byS p g v m) : Nat) : Int) := by omega
          simp only [hgt, hgt', Bool.not_false, if_true, decide_false, Bool.false_eq_true, if_false, Bool.and_false]
      · simp
    · have hle := insS_le (p := p) (g := g) (i := m) (w := putW p (byS p g v m)) (a := first8 (byS p g v m))
      have b1 : ((insS p g (putW p (byS p g v m)) (first8 (byS p g v m)) m).1 + 1) * 8 ≤ 140737488355328 := by omega
      simp only [spec_l01Put_su_v2.l0, spec_l01Put_su_v2.b0, Int.lt_irrefl, decide_false, Bool.false_eq_true, if_false, spec_l01Put_su_v2.a0_0, b1, if_true]
      cases (insS p g (putW p (byS p g v m)) (first8 (byS p g v m)) m).2.1 <;> simp

theorem putM_ok (hp : isP p = true) (h : RedG p m g l) {v : Nat → Int} (hv : inP p v) : ∃ l', RedG p (putM p m g v).1 (putM p m g v).2 l' ∧ Sub p 8 (Rw (putM p m g v).1 (rw8 (putM p m g v).2)) (Un (Rw m (rw8 g)) v) ∧ Sub p 8 (Un (Rw m (rw8 g)) v) (Rw (putM p m g v).1 (rw8 (putM p m g v).2)) := by
  have hr := isP_range hp
  have hu := byS_in (p := p) (by omega) (g := g) hv (k := m)
  obtain ⟨⟨s, s1, s2⟩, s3⟩ := byS_ok (by omega) h hv m (Nat.le_refl m)
  generalize hU : byS p g v m = u at hu s2 s3
  unfold putM
  simp only [hU]
  -- v is u less s
  have vs : Cg p 8 v fun i => u i + (-1) * s i := fun i hi => by
    obtain ⟨t, e⟩ := s2 i hi
    exact ⟨-t, by rw [Int.mul_neg, ← e]; simp only; omega⟩
  by_cases e : eqN 8 u (fun _ => 0) = true
  · simp only [e, if_true]
    refine ⟨l, h, Sub.left, Sub.un Sub.refl ((s1.times (-1)).cg (vs.trans (Cg.of_eq fun i hi => ?_)))⟩
    unfold eqN at e
    rw [decide_eq_true_eq] at e
    have := e i hi
    simp only at this
    rw [this]; omega
  · have hf := first8_nz e
    have hnz := first8_at hf
    have hub := hu _ hf
    obtain ⟨v1, v2, v3⟩ := invN_ok hp (x := u (first8 u)) (by omega) (by omega)
    have hw : inP p (putW p u) := addV_in (by omega)
    have wc : Cg p 8 (putW p u) fun i => (invN p (u (first8 u)) : Int) * u i := (addV_cg (p := p)).trans (Cg.of_eq fun i _ => by omega)
    have wz : ∀ i, i < 8 → p ∣ u i → p ∣ putW p u i := fun i hi hz => by
      have := Int.dvd_add (wc i hi) (Int.dvd_mul_of_dvd_right (b := (invN p (u (first8 u)) : Int)) hz)
      exact dvd_of_eq this (by simp only; omega)
    have w1 : p ∣ putW p u (first8 u) - 1 := by
      have := Int.dvd_add (wc _ hf) v3
      exact dvd_of_eq this (by simp only; omega)
    have wl : ∀ k, k < m → p ∣ putW p u (l k) := fun k hk => wz _ (h.red.inn k hk) (s3 k hk)
    have wlow : ∀ i, i < first8 u → p ∣ putW p u i := fun i hi => wz i (by omega) (by rw [first8_low hi]; exact Int.dvd_zero _)
    obtain ⟨i1, i2⟩ := insS_ok (by omega) h hf w1 wl m (Nat.le_refl m)
    -- the rows that come
    have fin : ∃ (t : Nat) (gf : Nat → Int), Ins p 8 m (rw8 g) l (putW p u) (first8 u) t ∧ (if (insS p g (putW p u) (first8 u) m).2.1 = true then ((insS p g (putW p u) (first8 u) m).1, (insS p g (putW p u) (first8 u) m).2.2) else ((insS p g (putW p u) (first8 u) m).1 + 1, joinN ((insS p g (putW p u) (first8 u) m).1 * 8) (insS p g (putW p u) (first8 u) m).2.2 (putW p u))) = (m + 1, gf) ∧
        ∀ k z, k < m + 1 → z < 8 → rw8 gf k z = putE p g (putW p u) (first8 u) t k z := by
      by_cases hpl : (insS p g (putW p u) (first8 u) m).2.1 = true
      · obtain ⟨e1, t, ht, h3, h4, h5⟩ := i2 hpl
        refine ⟨t, _, ⟨h.red, hf, w1, wlow, wl, by omega, h3, fun j h6 h7 => ?_⟩, by rw [if_pos hpl, e1], h5⟩
        have := h.red.le h6 h7
        omega
      · have hpl' : (insS p g (putW p u) (first8 u) m).2.1 = false := by simpa using hpl
        obtain ⟨e1, h3, h5⟩ := i1 hpl'
        refine ⟨m, _, ⟨h.red, hf, w1, wlow, wl, Nat.le_refl m, h3, fun j h6 h7 => by omega⟩, by rw [if_neg hpl, e1], fun k z hk hz => ?_⟩
        unfold putE ixT
        by_cases e : k = m
        · subst e; rw [rw8_eq, if_pos rfl]
        · rw [rw8_lt (by omega) hz, if_neg e, if_pos (by omega)]; exact h5 k z (by omega) hz
    obtain ⟨t, gf, I, eq, rows⟩ := fin
    simp only [e, if_false, Bool.false_eq_true]
    rw [eq]
    have cg : ∀ k, k < m + 1 → Cg p 8 (rw8 gf k) (putR (rw8 g) (putW p u) (first8 u) t k) := fun k hk => by
      refine (Cg.of_eq fun i hi => rows k i hk hi).trans ?_
      unfold putE putR
      split
      · exact Cg.refl
      · unfold lesP lessW
        exact addV_cg.trans (Cg.of_eq fun i _ => by simp only [Int.neg_mul]; omega)
    have sA : Sub p 8 (Rw (m + 1) (rw8 gf)) (Rw (m + 1) (putR (rw8 g) (putW p u) (first8 u) t)) := by
      rintro r ⟨k, hk, rfl⟩; exact (Sp.of ⟨k, hk, rfl⟩).cg (cg k hk)
    have sB : Sub p 8 (Rw (m + 1) (putR (rw8 g) (putW p u) (first8 u) t)) (Rw (m + 1) (rw8 gf)) := by
      rintro r ⟨k, hk, rfl⟩; exact (Sp.of ⟨k, hk, rfl⟩).cg (cg k hk).symm
    refine ⟨_, ⟨I.put.cg cg, fun k hk i hi => ?_⟩, (sA.trans I.sub1).trans ?_, Sub.trans ?_ (I.sub2.trans sB)⟩
    · rw [rows k i hk hi]
      unfold putE
      split
      · exact hw i hi
      · exact addV_in (by omega) i hi
    · -- w from the rows and v
      refine Sub.un Sub.left ?_
      have uu : Sp p 8 (Un (Rw m (rw8 g)) v) u := ((Sp.of (r := v) (.inr rfl)).plus (s1.mono Sub.left)).cg s2
      exact (uu.times _).cg wc
    · refine Sub.un Sub.left ?_
      have ww : Sp p 8 (Un (Rw m (rw8 g)) (putW p u)) u := by
        refine (Sp.times (u (first8 u)) (Sp.of (r := putW p u) (.inr rfl))).cg ?_
        refine Cg.symm ((wc.mul (u (first8 u))).trans fun i hi => ?_)
        have := Int.dvd_mul_of_dvd_left (c := u i) v3
        refine dvd_of_eq this ?_
        simp only [Int.sub_mul, Int.one_mul]
        rw [Int.mul_comm (invN p (u (first8 u)) : Int) (u (first8 u)), Int.mul_assoc]
      exact (ww.plus ((s1.mono Sub.left).times (-1))).cg vs

/-- the reduced list of the first i of some vectors -/
def redV (p : Int) (V : Nat → Nat → Int) : Nat → Nat × (Nat → Int)
  | 0 => (0, fun _ => 0)
  | i + 1 => putM p (redV p V i).1 (redV p V i).2 (V i)

theorem redV_ok (hp : isP p = true) {V : Nat → Nat → Int} {N : Nat} (hV : ∀ i, i < N → inP p (V i)) : ∀ i, i ≤ N → ∃ l, RedG p (redV p V i).1 (redV p V i).2 l ∧ Sub p 8 (Rw (redV p V i).1 (rw8 (redV p V i).2)) (Rw i V) ∧ Sub p 8 (Rw i V) (Rw (redV p V i).1 (rw8 (redV p V i).2))
  | 0, _ => ⟨fun _ => 0, ⟨⟨fun k h => by simp [redV] at h, fun j k _ h => by simp [redV] at h, fun k h => by simp [redV] at h, fun j k h => by simp [redV] at h, fun k i h => by simp [redV] at h⟩, fun k h => by simp [redV] at h⟩, (by rintro r ⟨k, hk, _⟩; simp [redV] at hk), (by rintro r ⟨k, hk, _⟩; omega)⟩
  | i + 1, hi => by
    obtain ⟨l, h1, h2, h3⟩ := redV_ok hp hV i (by omega)
    obtain ⟨l', g1, g2, g3⟩ := putM_ok hp h1 (hV i (by omega))
    refine ⟨l', g1, g2.trans (Sub.un (h2.trans ?_) (.of ⟨i, by omega, rfl⟩)), Sub.trans ?_ g3⟩
    · rintro r ⟨k, hk, rfl⟩; exact .of ⟨k, by omega, rfl⟩
    · rintro r ⟨k, hk, rfl⟩
      by_cases e : k = i
      · subst e; exact .of (.inr rfl)
      · exact (h3 _ ⟨k, by omega, rfl⟩).mono Sub.left

end
end Go.Proofs.Ythecjjnieojjoaa.H
