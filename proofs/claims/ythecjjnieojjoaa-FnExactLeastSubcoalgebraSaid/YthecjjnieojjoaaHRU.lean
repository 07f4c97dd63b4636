/- The program's way to a reduced list: rows in a pool, cleared column by column. -/
import Derived.Test.YthecjjnieojjoaaHRT
namespace Go.Proofs.Ythecjjnieojjoaa.H
set_option linter.unusedVariables false
set_option linter.unusedSimpArgs false
open Go Go.RowKit Go.Proofs.Ythecjjnieojjoaa.Hy
set_option linter.unusedVariables false
set_option linter.unusedSimpArgs false
set_option maxRecDepth 100000

section
variable {ρ : Type} {p : Int} {N W : Nat} {of ln : Nat → Nat} {pool : Nat → Int}

theorem impl_inverse (K : Int → Option ρ) {f : Nat → Int} {x : Int} (hp : isP (f 0) = true) (h0 : 0 < x) (h1 : x < f 0) : impl_field_inverse 6000 K f x = K (invN (f 0) x : Int) := by
  have hr := isP_range hp
  obtain ⟨k, h2, h3, h4⟩ := inv_ex hp h0 h1
  unfold impl_field_inverse impl_field_inverse.s
  have main : ∀ (n i q : Nat), i + n = 31 → n < q → 1 ≤ i → (∀ j, 1 ≤ j → j < i → ¬ (j : Int) * x % f 0 = 1) → impl_field_inverse.l0 6000 K f x (impl_field_inverse.a0_0 6000 K f) q (i : Int) = K (seekN (fun k => decide ((k : Int) * x % f 0 = 1)) i n : Int) := by
    intro n
    induction n with
    | zero =>
      intro i q e _ _ hj
      exact absurd h4 (hj k (by omega) (by omega))
    | succ n ih =>
      intro i q e hq hi hj
      obtain ⟨q, rfl⟩ : ∃ k, q = k + 1 := ⟨q - 1, by omega⟩
      have hik : i ≤ k := by
        apply Classical.byContradiction; intro hn
        exact hj k (by omega) (by omega) h4
      have e1 : (i : Int) < f 0 := by omega
      have e2 : ¬ f 0 = 0 := by omega
      have m1 : 0 ≤ (i : Int) * x := Int.mul_nonneg (by omega) (by omega)
      have m2 : (i : Int) * x ≤ 31 * 31 := Int.mul_le_mul (by omega) (by omega) (by omega) (by omega)
      simp only [impl_field_inverse.l0, impl_field_inverse.b0, e1, e2, decide_true, if_true, if_false, seekN]
      rw [wrap64_id (x := x) (by omega) (by omega), wrap64_id (x := (i : Int) * x) (by omega) (by omega), Int.tmod_eq_emod_of_nonneg m1, nx (by omega)]
      by_cases hg : (i : Int) * x % f 0 = 1
      · simp only [hg, beq_self_eq_true, if_true, decide_true]
      · simp only [hg, beq_iff_eq, if_false, decide_false, Bool.false_eq_true]
        exact ih (i + 1) q (by omega) (by omega) (by omega) (fun j h5 h6 => by
          by_cases ej : j = i
          · subst ej; exact hg
          · exact hj j h5 (by omega))
  exact main 30 1 6000 (by omega) (by omega) (by omega) (fun j h5 h6 => by omega)

theorem nx' {i : Nat} (h : i < 100000000) : IntKind.i64.wrap ((i : Int) + 1) = ((i + 1 : Nat) : Int) := by
  rw [wrap64_id (by omega) (by omega)]; omega

/-- rows of W cells, side by side, in a pool; what they hold is below p -/
structure Tbl (p : Int) (N W : Nat) (of ln : Nat → Nat) (pool : Nat → Int) : Prop where
  len : ∀ k, k < N → ln k = W
  dis : ∀ j k, j < N → k < N → j ≠ k → ∀ y z, y < W → z < W → of j + y ≠ of k + z
  ent : ∀ k z, k < N → z < W → 0 ≤ pool (of k + z) ∧ pool (of k + z) < p

def rowO (of : Nat → Nat) (pool : Nat → Int) (k : Nat) : Nat → Int := fun z => pool (of k + z)

/-- n cells from o on, b times -/
def sclP (p b : Int) (o n : Nat) (pool : Nat → Int) : Nat → Int := fun y => if o ≤ y ∧ y < o + n then b * pool y % p else pool y
/-- n cells from o on, less b times those from o' on -/
def subP (p b : Int) (o o' n : Nat) (pool : Nat → Int) : Nat → Int := fun y => if o ≤ y ∧ y < o + n then (pool y - b * pool (o' + (y - o))) % p else pool y

theorem sclP_next {b : Int} {o n : Nat} : upd (sclP p b o n pool) (o + n) (b * sclP p b o n pool (o + n) % p) = sclP p b o (n + 1) pool := by
  funext y
  unfold upd sclP
  by_cases h : y = o + n
  · subst h
    rw [if_pos rfl, if_neg (by omega), if_pos (by omega)]
  · rw [if_neg h]
    by_cases h2 : o ≤ y ∧ y < o + n
    · rw [if_pos h2, if_pos (by omega)]
    · rw [if_neg h2, if_neg (by omega)]
theorem subP_next {b : Int} {o o' n : Nat} (h : ∀ y, y ≤ n → ∀ z, z ≤ n → o + y ≠ o' + z) : upd (subP p b o o' n pool) (o + n) ((subP p b o o' n pool (o + n) - b * subP p b o o' n pool (o' + n)) % p) = subP p b o o' (n + 1) pool := by
  funext y
  have h1 : subP p b o o' n pool (o' + n) = pool (o' + n) := by
    unfold subP
    rw [if_neg]
    rintro ⟨g1, g2⟩
    exact h (o' + n - o) (by omega) n (by omega) (by omega)
  have h3 : subP p b o o' n pool (o + n) = pool (o + n) := by
    unfold subP; rw [if_neg (by omega)]
  rw [h1, h3]
  unfold upd subP
  by_cases hy : y = o + n
  · subst hy
    rw [if_pos rfl, if_pos (by omega)]
    congr 5; omega
  · rw [if_neg hy]
    by_cases h2 : o ≤ y ∧ y < o + n
    · rw [if_pos h2, if_pos (by omega)]
    · rw [if_neg h2, if_neg (by omega)]

/-- the rows cleared, up to row k -/
def clrP (p : Int) (W a c : Nat) (of : Nat → Nat) (pool : Nat → Int) : Nat → Nat → Int
  | 0 => pool
  | k + 1 => let q := clrP p W a c of pool k
    if k = a ∨ q (of k + c) = 0 then q else subP p (q (of k + c)) (of k) (of a) W q

theorem subP_off {b : Int} {o o' n y : Nat} (h : ∀ z, z < n → y ≠ o + z) : subP p b o o' n pool y = pool y := by
  unfold subP
  rw [if_neg]
  rintro ⟨g1, g2⟩
  exact h (y - o) (by omega) (by omega)

theorem clr_row (t : Tbl p N W of ln pool) {a c : Nat} (ha : a < N) : ∀ k, k ≤ N → (∀ j z, j < N → z < W → (k ≤ j ∨ j = a) → clrP p W a c of pool k (of j + z) = pool (of j + z))
  | 0, _ => fun j z _ _ _ => rfl
  | k + 1, hk => fun j z hj hz hc => by
    have ih := clr_row t (c := c) ha k (by omega) j z hj hz (by omega)
    simp only [clrP]
    split
    · exact ih
    · rw [subP_off]
      · exact ih
      · intro y hy
        exact t.dis j k hj (by omega) (by omega) z y hz hy

theorem clr_got (hp : 0 < p) (t : Tbl p N W of ln pool) {a c : Nat} (ha : a < N) (hc : c < W) : ∀ k, k ≤ N → ∀ j z, j < k → j ≠ a → z < W →
    (p ∣ clrP p W a c of pool k (of j + z) - (pool (of j + z) - pool (of j + c) * pool (of a + z))) ∧ 0 ≤ clrP p W a c of pool k (of j + z) ∧ clrP p W a c of pool k (of j + z) < p
  | 0, _ => fun j z h => by omega
  | k + 1, hk => fun j z hj hne hz => by
    by_cases e : j = k
    · subst e
      have r1 := clr_row t (c := c) ha j (by omega) j z (by omega) hz (.inl (Nat.le_refl _))
      have r2 := clr_row t (c := c) ha j (by omega) j c (by omega) hc (.inl (Nat.le_refl _))
      have r3 := clr_row t (c := c) ha j (by omega) a z ha hz (.inr rfl)
      have he := t.ent j z (by omega) hz
      simp only [clrP]
      by_cases h0 : clrP p W a c of pool j (of j + c) = 0
      · rw [if_pos (.inr h0), r1]
        rw [r2] at h0
        rw [h0, Int.zero_mul, Int.sub_zero, Int.sub_self]
        exact ⟨Int.dvd_zero _, he⟩
      · rw [if_neg (by rintro (h | h); exact hne h; exact h0 h)]
        have hs : subP p (clrP p W a c of pool j (of j + c)) (of j) (of a) W (clrP p W a c of pool j) (of j + z) = (pool (of j + z) - pool (of j + c) * pool (of a + z)) % p := by
          unfold subP
          rw [if_pos (by omega), r1, r2, show of j + z - of j = z by omega, r3]
        rw [hs]
        exact ⟨Cg.mod (p := p) (n := 1) (v := fun _ => pool (of j + z) - pool (of j + c) * pool (of a + z)) 0 (by omega), Int.emod_nonneg _ (by omega), Int.emod_lt_of_pos _ hp⟩
    · have ih := clr_got hp t ha hc k (by omega) j z (by omega) hne hz
      simp only [clrP]
      split
      · exact ih
      · rw [subP_off]
        · exact ih
        · intro y hy
          exact t.dis j k (by omega) (by omega) e z y hz hy

theorem impl_clear (hp : isP p = true) (t : Tbl p N W of ln pool) (K : (Nat → Int) → (Nat → Int) → Option ρ) {f pl mn : Nat → Int} {a c d1 d2 d3 : Nat} (hf : f 0 = p) (ha : a < N) (hc : c < W) (hN : N ≤ 1000) (hW : W ≤ 100) (hnz : pool (of a + c) ≠ 0) :
    impl_system_clear_v2 6000 K (a : Int) (c : Int) f mn N d1 d2 d3 of ln pl pool = K pl (clrP p W a c of (sclP p (invN p (pool (of a + c)) : Int) (of a) W pool) N) := by
  have hr := isP_range hp
  have hac := t.ent a c ha hc
  have iv := invN_ok hp (x := pool (of a + c)) (by omega) (by omega)
  have g1 : (0 : Int) ≤ (a : Int) ∧ (a : Int) < (N : Int) := by omega
  have g2 : (0 : Int) ≤ (c : Int) ∧ (c : Int) < (W : Int) := by omega
  unfold impl_system_clear_v2 impl_system_clear_v2.s
  simp only [g1, g2, t.len a ha, and_self, if_true, Int.toNat_natCast, Nat.zero_add, Nat.mul_one]
  rw [impl_inverse _ (by rw [hf]; exact hp) (by omega) (by rw [hf]; omega), hf]
  refine loop_at (n := W) (fun i => sclP p (invN p (pool (of a + c)) : Int) (of a) i pool) (by funext y; unfold sclP; rw [if_neg (by omega)]) (fun q i hi => ?_) (fun q => ?_) (by omega)
  · simp only [impl_system_clear_v2.l0, impl_system_clear_v2.b0]
    have h1 : (i : Int) < (W : Int) := by omega
    have h2 : (0 : Int) ≤ i ∧ (i : Int) < (W : Int) := by omega
    have he := t.ent a i ha hi
    have hs : sclP p (invN p (pool (of a + c)) : Int) (of a) i pool (of a + i) = pool (of a + i) := by unfold sclP; rw [if_neg (by omega)]
    have m1 : 0 ≤ (invN p (pool (of a + c)) : Int) * pool (of a + i) := Int.mul_nonneg (by omega) (by omega)
    have m2 : (invN p (pool (of a + c)) : Int) * pool (of a + i) ≤ 31 * 31 := Int.mul_le_mul (by omega) (by omega) (by omega) (by omega)
    simp only [h1, h2, t.len a ha, decide_true, if_true, and_self, Int.toNat_natCast, Nat.zero_add, Nat.mul_one, nx (show i < 100000 by omega)]
    rw [impl_mod _ (by omega) (by omega), hf]
    rw [wrap64_id (x := sclP p (invN p (pool (of a + c)) : Int) (of a) i pool (of a + i)) (by omega) (by omega), wrap64_id (by rw [hs]; omega) (by rw [hs]; omega), sclP_next]
  · simp only [impl_system_clear_v2.l0, impl_system_clear_v2.b0, t.len a ha, Nat.zero_add, Nat.mul_one, Int.toNat_natCast, Int.lt_irrefl, decide_false, Bool.false_eq_true, if_false, impl_system_clear_v2.a0_0]
    -- the table after the row is made 1
    have t1 : Tbl p N W of ln (sclP p (invN p (pool (of a + c)) : Int) (of a) W pool) := ⟨t.len, t.dis, fun k z hk hz => by
      unfold sclP
      split
      · exact ⟨Int.emod_nonneg _ (by omega), Int.emod_lt_of_pos _ (by omega)⟩
      · exact t.ent k z hk hz⟩
    generalize sclP p (invN p (pool (of a + c)) : Int) (of a) W pool = pool1 at t1
    refine loop_at (n := N) (fun k => clrP p W a c of pool1 k) rfl (fun q k hk => ?_) (fun q => ?_) (by omega)
    · simp only [impl_system_clear_v2.l1, impl_system_clear_v2.b1]
      have h1 : (k : Int) < (N : Int) := by omega
      have h2 : (0 : Int) ≤ k ∧ (k : Int) < (N : Int) := by omega
      simp only [h1, h2, g2, t.len k hk, decide_true, if_true, and_self, Int.toNat_natCast, Nat.zero_add, Nat.mul_one, nx' (show k < 100000000 by omega)]
      by_cases e : k = a
      · have e' : ((k : Int) == (a : Int)) = true := by simp [e]
        rw [if_pos e']
        have : clrP p W a c of pool1 (k + 1) = clrP p W a c of pool1 k := by simp only [clrP]; rw [if_pos (.inl e)]
        rw [this]
      · have e' : ¬ ((k : Int) == (a : Int)) = true := by simp only [beq_iff_eq]; omega
        rw [if_neg e']
        by_cases h0 : clrP p W a c of pool1 k (of k + c) = 0
        · have : clrP p W a c of pool1 (k + 1) = clrP p W a c of pool1 k := by simp only [clrP]; rw [if_pos (.inr h0)]
          rw [this]
          simp [h0]
        · have : clrP p W a c of pool1 (k + 1) = subP p (clrP p W a c of pool1 k (of k + c)) (of k) (of a) W (clrP p W a c of pool1 k) := by simp only [clrP]; rw [if_neg (by rintro (h | h); exact e h; exact h0 h)]
          rw [this]
          have h0' : ¬ (clrP p W a c of pool1 k (of k + c) == 0) = true := by simpa using h0
          rw [if_neg h0']
          have rk := fun z hz => clr_row t1 (c := c) ha k (by omega) k z hk hz (.inl (Nat.le_refl _))
          have ra := fun z hz => clr_row t1 (c := c) ha k (by omega) a z ha hz (.inr rfl)
          have bc := t1.ent k c hk hc
          refine loop_at (n := W) (fun i => subP p (clrP p W a c of pool1 k (of k + c)) (of k) (of a) i (clrP p W a c of pool1 k)) (by funext y; unfold subP; rw [if_neg (by omega)]) (fun q' i hi => ?_) (fun q' => ?_) (by omega)
          · simp only [impl_system_clear_v2.l2, impl_system_clear_v2.b2]
            have k1 : (i : Int) < (W : Int) := by omega
            have k2 : (0 : Int) ≤ i ∧ (i : Int) < (W : Int) := by omega
            have s1 : subP p (clrP p W a c of pool1 k (of k + c)) (of k) (of a) i (clrP p W a c of pool1 k) (of k + i) = pool1 (of k + i) := by
              unfold subP; rw [if_neg (by omega)]; exact rk i hi
            have s2 : subP p (clrP p W a c of pool1 k (of k + c)) (of k) (of a) i (clrP p W a c of pool1 k) (of a + i) = pool1 (of a + i) := by
              rw [subP_off]
              · exact ra i hi
              · intro y hy; exact t1.dis a k ha hk (by omega) i y hi (by omega)
            have s3 := rk c hc
            have b1 := t1.ent k i hk hi
            have b2 := t1.ent a i ha hi
            have m1 : 0 ≤ pool1 (of k + c) * pool1 (of a + i) := Int.mul_nonneg (by omega) (by omega)
            have m2 : pool1 (of k + c) * pool1 (of a + i) ≤ 31 * 31 := Int.mul_le_mul (by omega) (by omega) (by omega) (by omega)
            simp only [k1, k2, t.len a ha, t.len k hk, decide_true, if_true, and_self, Int.toNat_natCast, Nat.zero_add, Nat.mul_one, nx (show i < 100000 by omega)]
            rw [impl_mod _ (by omega) (by omega), hf]
            have ew : IntKind.i64.wrap (IntKind.i64.wrap (subP p (clrP p W a c of pool1 k (of k + c)) (of k) (of a) i (clrP p W a c of pool1 k) (of k + i)) - IntKind.i64.wrap (IntKind.i64.wrap (clrP p W a c of pool1 k (of k + c)) * IntKind.i64.wrap (subP p (clrP p W a c of pool1 k (of k + c)) (of k) (of a) i (clrP p W a c of pool1 k) (of a + i)))) =
                subP p (clrP p W a c of pool1 k (of k + c)) (of k) (of a) i (clrP p W a c of pool1 k) (of k + i) - clrP p W a c of pool1 k (of k + c) * subP p (clrP p W a c of pool1 k (of k + c)) (of k) (of a) i (clrP p W a c of pool1 k) (of a + i) := by
              rw [s1, s2, s3, wrap64_id (x := pool1 (of k + i)) (by omega) (by omega), wrap64_id (x := pool1 (of k + c)) (by omega) (by omega), wrap64_id (x := pool1 (of a + i)) (by omega) (by omega), wrap64_id (x := pool1 (of k + c) * pool1 (of a + i)) (by omega) (by omega), wrap64_id (by omega) (by omega)]
            rw [ew, subP_next]
            intro y hy z hz
            exact t1.dis k a hk ha e y z (by omega) (by omega)
          · simp only [impl_system_clear_v2.l2, impl_system_clear_v2.b2, t.len a ha, Nat.zero_add, Nat.mul_one, Int.toNat_natCast, Int.lt_irrefl, decide_false, Bool.false_eq_true, if_false, impl_system_clear_v2.a2_0, nx' (show k < 100000000 by omega)]
    · simp only [impl_system_clear_v2.l1, impl_system_clear_v2.b1, Int.lt_irrefl, decide_false, Bool.false_eq_true, if_false, impl_system_clear_v2.a1_0]

end
end Go.Proofs.Ythecjjnieojjoaa.H
