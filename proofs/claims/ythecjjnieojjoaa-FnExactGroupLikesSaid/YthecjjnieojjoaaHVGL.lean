/- GroupLikes: both walk through the same vectors in the same order. -/
import Derived.Test.YthecjjnieojjoaaHVS
namespace Go.Proofs.Ythecjjnieojjoaa.H
set_option linter.unusedVariables false
set_option linter.unusedSimpArgs false
open Go Go.RowKit Go.Proofs.Ythecjjnieojjoaa.Hy
set_option linter.unusedVariables false
set_option linter.unusedSimpArgs false
set_option maxRecDepth 100000

section
variable {ρ : Type} {c0 c1 : Nat → Int} {n : Nat}

/-- what is left of x after j digits -/
def rsG (p : Int) (x : Nat) : Nat → Int
  | 0 => x
  | j + 1 => IntKind.i64.wrap (Int.tdiv (rsG p x j) p)
/-- the last j digits of x, of n -/
def dgG (p : Int) (x n : Nat) : Nat → Nat → Int
  | 0 => fun _ => 0
  | j + 1 => upd (dgG p x n j) (n - 1 - j) (IntKind.u8.wrap (Int.tmod (rsG p x j) p))

theorem rsG_range {p : Int} (hp : 2 ≤ p) {x : Nat} (hx : x ≤ 10000) : ∀ {j : Nat}, 0 ≤ rsG p x j ∧ rsG p x j ≤ 10000
  | 0 => by simp only [rsG]; omega
  | j + 1 => by
    obtain ⟨h1, h2⟩ := rsG_range hp hx (j := j)
    have e1 : 0 ≤ Int.tdiv (rsG p x j) p := Int.tdiv_nonneg h1 (by omega)
    have e2 : Int.tdiv (rsG p x j) p ≤ rsG p x j := by
      rw [Int.tdiv_eq_ediv_of_nonneg h1]
      exact Int.ediv_le_self _ h1
    simp only [rsG]
    rw [wrap64_id (by omega) (by omega)]
    omega

theorem dgG_in {p : Int} (hp : 2 ≤ p) (hp' : p ≤ 31) {x n : Nat} (hx : x ≤ 10000) : ∀ {j : Nat}, inP p (dgG p x n j)
  | 0 => fun i _ => by simp only [dgG]; omega
  | j + 1 => by
    intro i hi
    have ih := dgG_in hp hp' hx (n := n) (j := j) i hi
    obtain ⟨h1, h2⟩ := rsG_range hp hx (j := j)
    have e1 := Int.tmod_nonneg p h1
    have e2 := Int.tmod_lt_of_pos (rsG p x j) (show 0 < p by omega)
    simp only [dgG]
    unfold upd
    split
    · rw [wrap8_id (by omega) (by omega)]; omega
    · exact ih

theorem spec_digits (h : Shp c0 c1 n) {x : Nat} (hx : x ≤ 10000) (out : (Nat → Int) → Option ρ) (K : Nat → (Nat → Int) → Option ρ) {i0 : Int} (hi0 : i0 = (n : Int) - 1) : spec_l02Groups.l1 6000 K c0 out 6000 (x : Int) i0 (fun _ => 0) = out (dgG (c0 0) x n n) := by
  have hn := h.le
  have := loop_st (l := fun m (j : Nat) (s : Int × Int × (Nat → Int)) => spec_l02Groups.l1 6000 K c0 out m s.1 s.2.1 s.2.2) (n := n) (out := out (dgG (c0 0) x n n)) (fun j => (rsG (c0 0) x j, (n : Int) - 1 - j, dgG (c0 0) x n j)) (fun m j hj => ?_) (fun m => ?_) n 0 6000 (by omega) (by omega)
  · subst hi0
    refine Eq.trans ?_ this
    simp [rsG, dgG]
  · simp only [spec_l02Groups.l1, spec_l02Groups.b1]
    have h0 : ¬ c0 0 = 0 := by have := h.p0; omega
    have e1 : (n : Int) - 1 - j ≥ 0 := by omega
    have e2 : (0 : Int) ≤ (n : Int) - 1 - j ∧ (n : Int) - 1 - j < 8 := by omega
    have e3 : ((n : Int) - 1 - j).toNat = n - 1 - j := by omega
    have e4 : IntKind.i64.wrap ((n : Int) - 1 - j - 1) = (n : Int) - 1 - ((j + 1 : Nat) : Int) := by rw [wrap64_id (by omega) (by omega)]; omega
    simp only [e1, e2, e3, e4, h0, decide_true, if_true, and_self, if_false, Nat.mul_one]
    rfl
  · have e1 : ¬ ((n : Int) - 1 - n ≥ 0) := by omega
    simp only [spec_l02Groups.l1, spec_l02Groups.b1, e1, decide_false, Bool.false_eq_true, if_false]

theorem impl_digits (h : Shp c0 c1 n) {x : Nat} (hx : x ≤ 10000) {f : Nat → Int} (hf : f 0 = c0 0) (out : (Nat → Int) → Option ρ) (K : Nat → Int → (Nat → Int) → Option ρ) {i0 : Int} (hi0 : i0 = (n : Int) - 1) : impl_GroupLikes.l2 6000 K f out 6000 (x : Int) i0 (fun _ => 0) = out (dgG (c0 0) x n n) := by
  have hn := h.le
  have := loop_st (l := fun m (j : Nat) (s : Int × Int × (Nat → Int)) => impl_GroupLikes.l2 6000 K f out m s.1 s.2.1 s.2.2) (n := n) (out := out (dgG (c0 0) x n n)) (fun j => (rsG (c0 0) x j, (n : Int) - 1 - j, dgG (c0 0) x n j)) (fun m j hj => ?_) (fun m => ?_) n 0 6000 (by omega) (by omega)
  · subst hi0
    refine Eq.trans ?_ this
    simp [rsG, dgG]
  · simp only [impl_GroupLikes.l2, impl_GroupLikes.b2, hf]
    have h0 : ¬ c0 0 = 0 := by have := h.p0; omega
    have e1 : (n : Int) - 1 - j ≥ 0 := by omega
    have e2 : (0 : Int) ≤ (n : Int) - 1 - j ∧ (n : Int) - 1 - j < 8 := by omega
    have e3 : ((n : Int) - 1 - j).toNat = n - 1 - j := by omega
    have e4 : IntKind.i64.wrap ((n : Int) - 1 - j - 1) = (n : Int) - 1 - ((j + 1 : Nat) : Int) := by rw [wrap64_id (by omega) (by omega)]; omega
    simp only [e1, e2, e3, e4, h0, decide_true, if_true, and_self, if_false, Nat.mul_one]
    rfl
  · have e1 : ¬ ((n : Int) - 1 - n ≥ 0) := by omega
    simp only [impl_GroupLikes.l2, impl_GroupLikes.b2, e1, decide_false, Bool.false_eq_true, if_false]

/-- the list after m vectors -/
def glS (c0 c1 : Nat → Int) (n : Nat) : Nat → Nat × (Nat → Int)
  | 0 => (0, fun _ => 0)
  | m + 1 => if glB c0 c1 (dgG (c0 0) m n n) n = true then ((glS c0 c1 n m).1 + 1, joinN ((glS c0 c1 n m).1 * 8) (glS c0 c1 n m).2 (dgG (c0 0) m n n)) else glS c0 c1 n m

theorem glS_le : ∀ {m : Nat}, (glS c0 c1 n m).1 ≤ m
  | 0 => Nat.le_refl _
  | m + 1 => by
    have := glS_le (m := m)
    simp only [glS]
    split
    · simp only; omega
    · omega

theorem spec_groupsL (h : Shp c0 c1 n) {a : Nat} (ha : a ≤ 5001) (K : Nat → (Nat → Int) → Option ρ) (out : Nat → (Nat → Int) → Option ρ) :
    spec_l02Groups.l0 6000 K c0 c1 (a : Int) out 6000 0 0 (fun _ => 0) = out (glS c0 c1 n a).1 (glS c0 c1 n a).2 := by
  have hn := h.le
  have hp := h.pos
  refine loop_tat (n := a) (fun m => (glS c0 c1 n m).1) (fun m => (glS c0 c1 n m).2) rfl rfl (fun q m hm => ?_) (fun q => ?_) (by omega)
  · simp only [spec_l02Groups.l0, spec_l02Groups.b0]
    have h1 : (m : Int) < (a : Int) := by omega
    simp only [h1, decide_true, if_true]
    rw [spec_digits h (by omega) _ _ (by rw [h.size, wrap64_id (by omega) (by omega)])]
    have hv := dgG_in h.p2 h.p31 (x := m) (n := n) (by omega) (j := n)
    have hv' := inP_byte h.p255 hv
    have hl := glS_le (c0 := c0) (c1 := c1) (n := n) (m := m)
    have hg : ((glS c0 c1 n m).1 + 1) * 8 ≤ 140737488355328 := by omega
    simp only [spec_l02Groups.a1_0, nx (show m < 100000 by omega)]
    rw [spec_counit h _ hv']
    by_cases hc : (sumN (fun i => dgG (c0 0) m n n i * c1 (0 + i)) 8 % c0 0 == 1) = true
    · simp only [hc, if_true]
      rw [spec_group h _ hv]
      by_cases hb : glB c0 c1 (dgG (c0 0) m n n) n = true
      · simp only [hb, if_true, hg, glS]
      · simp only [glS, if_neg hb, Bool.false_eq_true, if_false]
    · have hb : ¬ glB c0 c1 (dgG (c0 0) m n n) n = true := by
        unfold glB
        intro hh
        rw [Bool.and_eq_true] at hh
        exact hc hh.1
      simp only [hc, if_false, glS, if_neg hb, Bool.false_eq_true]
  · simp only [spec_l02Groups.l0, spec_l02Groups.b0, Int.lt_irrefl, decide_false, Bool.false_eq_true, if_false]

theorem impl_groupsL (h : Shp c0 c1 n) {a : Nat} (ha : a ≤ 5001) {f : Nat → Int} (hf : f 0 = c0 0) (hf1 : f 1 = c0 1) (K : Nat → Int → (Nat → Int) → Option ρ) (out : Nat → (Nat → Int) → Option ρ) :
    impl_GroupLikes.l1 6000 K c0 c1 f (a : Int) out 6000 0 0 (fun _ => 0) = out (glS c0 c1 n a).1 (glS c0 c1 n a).2 := by
  have hn := h.le
  have hp := h.pos
  refine loop_tat (n := a) (fun m => (glS c0 c1 n m).1) (fun m => (glS c0 c1 n m).2) rfl rfl (fun q m hm => ?_) (fun q => ?_) (by omega)
  · simp only [impl_GroupLikes.l1, impl_GroupLikes.b1]
    have h1 : (m : Int) < (a : Int) := by omega
    simp only [h1, decide_true, if_true]
    rw [impl_digits h (by omega) hf _ _ (by rw [hf1, h.size, wrap64_id (by omega) (by omega)])]
    have hv := dgG_in h.p2 h.p31 (x := m) (n := n) (by omega) (j := n)
    have hl := glS_le (c0 := c0) (c1 := c1) (n := n) (m := m)
    have hg : ((glS c0 c1 n m).1 + 1) * 8 ≤ 140737488355328 := by omega
    simp only [impl_GroupLikes.a2_0, nx (show m < 100000 by omega)]
    rw [impl_group h _ hv]
    by_cases hb : glB c0 c1 (dgG (c0 0) m n n) n = true
    · simp only [hb, if_true, hg, glS]
    · simp only [glS, if_neg hb, Bool.false_eq_true, if_false]
  · simp only [impl_GroupLikes.l1, impl_GroupLikes.b1, Int.lt_irrefl, decide_false, Bool.false_eq_true, if_false]

/-! how many vectors there are -/

def cntS (p : Int) : Nat → Int → Int
  | 0, o => if 5001 < o then 5001 else o
  | k + 1, o => if o ≤ 5000 then cntS p k (o * p) else 5001
def cntI (p : Int) : Nat → Int → Option Int
  | 0, o => some o
  | k + 1, o => if o * p > 5000 then none else cntI p k (o * p)

theorem cnt_same {p : Int} (hp : 2 ≤ p) : ∀ {k : Nat} {o : Int}, 0 < o → o ≤ 5000 → (∃ a : Nat, a ≤ 5000 ∧ cntI p k o = some (a : Int) ∧ cntS p k o = a) ∨ (cntI p k o = none ∧ cntS p k o = 5001)
  | 0, o, h, h' => by
    refine .inl ⟨o.toNat, by omega, ?_, ?_⟩
    · simp only [cntI]; congr 1; omega
    · simp only [cntS]; rw [if_neg (by omega)]; omega
  | k + 1, o, h, h' => by
    simp only [cntI, cntS]
    rw [if_pos h']
    have hpos : 0 < o * p := Int.mul_pos h (by omega)
    by_cases hb : o * p > 5000
    · rw [if_pos hb]
      refine .inr ⟨rfl, ?_⟩
      cases k with
      | zero => simp only [cntS]; split <;> omega
      | succ k => simp only [cntS]; rw [if_neg (by omega)]
    · rw [if_neg hb]
      exact cnt_same hp hpos (by omega)

theorem small_mul {o p : Int} (h : 0 < o) (h' : o ≤ 5000) (hp : 2 ≤ p) (hp' : p ≤ 31) : 0 < o * p ∧ o * p ≤ 155000 := by
  refine ⟨Int.mul_pos h (by omega), ?_⟩
  have h1 : o * p ≤ o * 31 := Int.mul_le_mul_of_nonneg_left hp' (by omega)
  omega

theorem spec_count_at (K : Int → Option ρ) {p : Int} (hp : 2 ≤ p) (hp' : p ≤ 31) : ∀ (k m : Nat) (o : Int), k < m → k ≤ 8 → 0 < o → o ≤ 155000 → spec_l02Count.l0 6000 K p (fun o => spec_l02Count.a0_0 6000 K o) m (k : Int) o = K (cntS p k o)
  | 0, m, o, hm, _, h, h' => by
    obtain ⟨m, rfl⟩ : ∃ q, m = q + 1 := ⟨m - 1, by omega⟩
    simp only [spec_l02Count.l0, spec_l02Count.b0, Int.natCast_zero, gt_iff_lt, Int.lt_irrefl, decide_false, Bool.false_eq_true, if_false, spec_l02Count.a0_0, cntS]
  | k + 1, m, o, hm, hk, h, h' => by
    obtain ⟨m, rfl⟩ : ∃ q, m = q + 1 := ⟨m - 1, by omega⟩
    have h1 : ((k + 1 : Nat) : Int) > 0 := by omega
    have h2 : IntKind.i64.wrap (((k + 1 : Nat) : Int) - 1) = (k : Int) := by rw [wrap64_id (by omega) (by omega)]; omega
    simp only [spec_l02Count.l0, spec_l02Count.b0, h1, h2, decide_true, if_true, cntS]
    by_cases ho : o ≤ 5000
    · obtain ⟨s1, s2⟩ := small_mul h ho hp hp'
      simp only [ho, decide_true, if_true]
      rw [wrap64_id (by omega) (by omega)]
      exact spec_count_at K hp hp' k m (o * p) (by omega) (by omega) s1 s2
    · simp only [ho, decide_false, Bool.false_eq_true, if_false, spec_l02Count.a0_0]
      by_cases h5 : 5001 < o
      · rw [if_pos h5]
      · rw [if_neg h5]; congr 1; omega

theorem spec_count (K : Int → Option ρ) {p : Int} (hp : 2 ≤ p) (hp' : p ≤ 31) {n : Nat} (hn : n ≤ 8) : spec_l02Count 6000 K p (n : Int) = K (cntS p n 1) := by
  rw [spec_l02Count, spec_l02Count.s]
  exact spec_count_at K hp hp' n 6000 1 (by omega) hn (by omega) (by omega)

theorem impl_count_at (K : Nat → Int → (Nat → Int) → Option ρ) {f : Nat → Int} {n : Nat} (hp : 2 ≤ f 0) (hp' : f 0 ≤ 31) (hn : f 1 = (n : Int)) (hn8 : n ≤ 8) (out : Int → Option ρ) : ∀ (k i m : Nat) (o : Int), i + k = n → k < m → 0 < o → o ≤ 5000 →
    impl_GroupLikes.l0 6000 K f out m o (i : Int) = (match cntI (f 0) k o with | some a => out a | none => K 0 3 (fun _ => 0))
  | 0, i, m, o, hi, hm, h, h' => by
    obtain ⟨m, rfl⟩ : ∃ q, m = q + 1 := ⟨m - 1, by omega⟩
    have e : i = n := by omega
    subst e
    simp only [impl_GroupLikes.l0, impl_GroupLikes.b0, hn, Int.lt_irrefl, decide_false, Bool.false_eq_true, if_false, cntI]
  | k + 1, i, m, o, hi, hm, h, h' => by
    obtain ⟨m, rfl⟩ : ∃ q, m = q + 1 := ⟨m - 1, by omega⟩
    obtain ⟨s1, s2⟩ := small_mul h h' hp hp'
    have h1 : (i : Int) < (n : Int) := by omega
    simp only [impl_GroupLikes.l0, impl_GroupLikes.b0, hn, h1, decide_true, if_true, cntI]
    rw [wrap64_id (x := o * f 0) (by omega) (by omega)]
    by_cases hb : o * f 0 > 5000
    · simp only [hb, decide_true, if_true]
    · simp only [hb, decide_false, Bool.false_eq_true, if_false, nx (show i < 100000 by omega)]
      exact impl_count_at K hp hp' hn hn8 out k (i + 1) m _ (by omega) (by omega) s1 (by omega)

/-- the list and the code -/
def glR (c0 c1 : Nat → Int) : Nat × Int × (Nat → Int) :=
  if coB c0 c1 = true then (match cntI (c0 0) (c0 1).toNat 1 with | some a => ((glS c0 c1 (c0 1).toNat a.toNat).1, 0, (glS c0 c1 (c0 1).toNat a.toNat).2) | none => (0, 3, fun _ => 0)) else (0, 1, fun _ => 0)

theorem glR_le : (glR c0 c1).1 < 6000 ∨ ¬ ∃ n, Shp c0 c1 n := by
  by_cases hs : ∃ n, Shp c0 c1 n
  · refine .inl ?_
    obtain ⟨n, h⟩ := hs
    unfold glR
    split
    · rcases cnt_same h.p2 (k := (c0 1).toNat) (o := 1) (by omega) (by omega) with ⟨a, h1, h2, _⟩ | ⟨h2, _⟩
      · rw [h2]
        have := glS_le (c0 := c0) (c1 := c1) (n := (c0 1).toNat) (m := a)
        simp only [Int.toNat_natCast]
        omega
      · rw [h2]; simp only; omega
    · simp only; omega
  · exact .inr hs

theorem spec_GL (hb : ∀ i, i < 520 → 0 ≤ c1 i ∧ c1 i ≤ 255) (K : Nat → Int → (Nat → Int) → Option ρ) : spec_GroupLikes 6000 K c0 c1 = K (glR c0 c1).1 (glR c0 c1).2.1 (glR c0 c1).2.2 := by
  rw [spec_GroupLikes, spec_isCo hb]
  unfold glR
  by_cases hc : coB c0 c1 = true
  · obtain ⟨n, h⟩ := coB_shp hc hb
    have hn := h.le
    have e : (c0 1).toNat = n := by rw [h.size]; simp
    simp only [hc, Bool.not_true, Bool.false_eq_true, if_false, if_true, e]
    rw [h.size, spec_count _ h.p2 h.p31 hn]
    rcases cnt_same h.p2 (k := n) (o := 1) (by omega) (by omega) with ⟨a, h1, h2, h3⟩ | ⟨h2, h3⟩
    · have h4 : ¬ ((a : Int) > 5000) := by omega
      simp only [h2, h3, h4, decide_false, Bool.false_eq_true, if_false]
      rw [spec_l02Groups, spec_l02Groups.s, h.size, spec_count _ h.p2 h.p31 hn, h3, spec_groupsL h (by omega)]
      simp only [spec_l02Groups.a0_0, Int.toNat_natCast]
    · simp [h2, h3]
  · simp [hc]

theorem impl_GL (hb : ∀ i, i < 520 → 0 ≤ c1 i ∧ c1 i ≤ 255) (K : Nat → Int → (Nat → Int) → Option ρ) : impl_GroupLikes 6000 K c0 c1 = K (glR c0 c1).1 (glR c0 c1).2.1 (glR c0 c1).2.2 := by
  rw [impl_GroupLikes, impl_GroupLikes.s, impl_cocode0 hb]
  unfold glR
  by_cases hc : coB c0 c1 = true
  · obtain ⟨n, h⟩ := coB_shp hc hb
    have hn := h.le
    have e : (c0 1).toNat = n := by rw [h.size]; simp
    simp only [hc, bne_self_eq_false, Bool.false_eq_true, if_false, if_true, e, impl_Coalgebra_field]
    have f0 : upd (upd (fun _ => 0) 0 (c0 0)) 1 (c0 1) 0 = c0 0 := fld0
    have f1 : upd (upd (fun _ => 0) 0 (c0 0)) 1 (c0 1) 1 = c0 1 := fld1
    refine (impl_count_at K (f := upd (upd (fun _ => 0) 0 (c0 0)) 1 (c0 1)) (n := n) (by rw [f0]; exact h.p2) (by rw [f0]; exact h.p31) (by rw [f1]; exact h.size) hn _ n 0 6000 1 (by omega) (by omega) (by omega) (by omega)).trans ?_
    rw [f0]
    rcases cnt_same h.p2 (k := n) (o := 1) (by omega) (by omega) with ⟨a, h1, h2, h3⟩ | ⟨h2, h3⟩
    · simp only [h2, impl_GroupLikes.a0_0]
      rw [impl_groupsL h (by omega) f0 f1]
      simp only [impl_GroupLikes.a1_0, Int.toNat_natCast]
    · simp [h2]
  · simp [hc]

theorem fnExactGroupLikes_law (K : Bool → Option ρ) (a0 a1 : Nat → Int) (h0 : ∀ i, IntKind.i64.has (a0 i)) (h1 : ∀ i, IntKind.u8.has (a1 i)) : laws_FnExactGroupLikes 6000 K a0 a1 = K true := by
  rw [laws_FnExactGroupLikes]
  simp only [toCoalgebra_eq]
  simp only [spec_GL (keepN_byte h1), impl_GL (keepN_byte h1)]
  have hl : (glR (keepN 2 a0) (keepN 520 a1)).1 < 6000 := by
    by_cases hc : coB (keepN 2 a0) (keepN 520 a1) = true
    · rcases glR_le (c0 := keepN 2 a0) (c1 := keepN 520 a1) with h | h
      · exact h
      · exact absurd (coB_shp hc (keepN_byte h1)) h
    · unfold glR; rw [if_neg hc]; simp only; omega
  generalize glR (keepN 2 a0) (keepN 520 a1) = R at hl ⊢
  have hk : ¬ (101 + ((R.1 * 8 : Nat) : Int) < 0) := by omega
  simp only [eqVS _ hl (fun _ _ => rfl), markVS _ hl, heldVS _ hl (fun z hz => mk_held hz), Bool.not_true, bne_self_eq_false, Bool.false_eq_true, if_false, hk, decide_false]

end
end Go.Proofs.Ythecjjnieojjoaa.H
