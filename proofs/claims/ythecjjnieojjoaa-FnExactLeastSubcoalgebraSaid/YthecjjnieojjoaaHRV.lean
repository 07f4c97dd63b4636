/- The program's way to a reduced list: the system solved. -/
import Derived.Test.YthecjjnieojjoaaHRU
namespace Go.Proofs.Ythecjjnieojjoaa.H
set_option linter.unusedVariables false
set_option linter.unusedSimpArgs false
open Go Go.RowKit Go.Proofs.Ythecjjnieojjoaa.Hy
set_option linter.unusedVariables false
set_option linter.unusedSimpArgs false
set_option maxRecDepth 100000

section
variable {ρ : Type} {p : Int} {N W : Nat} {of ln : Nat → Nat} {pool : Nat → Int}

theorem clear_ok (hp : isP p = true) (t : Tbl p N W of ln pool) {a c : Nat} (ha : a < N) (hc : c < W) :
    Tbl p N W of ln (clrP p W a c of (sclP p (invN p (pool (of a + c)) : Int) (of a) W pool) N) ∧
    (∀ z, z < W → p ∣ clrP p W a c of (sclP p (invN p (pool (of a + c)) : Int) (of a) W pool) N (of a + z) - (invN p (pool (of a + c)) : Int) * pool (of a + z)) ∧
    (∀ k, k < N → k ≠ a → ∀ z, z < W → p ∣ clrP p W a c of (sclP p (invN p (pool (of a + c)) : Int) (of a) W pool) N (of k + z) - (pool (of k + z) - pool (of k + c) * clrP p W a c of (sclP p (invN p (pool (of a + c)) : Int) (of a) W pool) N (of a + z))) := by
  have hr := isP_range hp
  generalize (invN p (pool (of a + c)) : Int) = b
  have t1 : Tbl p N W of ln (sclP p b (of a) W pool) := ⟨t.len, t.dis, fun k z hk hz => by
    unfold sclP
    split
    · exact ⟨Int.emod_nonneg _ (by omega), Int.emod_lt_of_pos _ (by omega)⟩
    · exact t.ent k z hk hz⟩
  have sa : ∀ z, z < W → sclP p b (of a) W pool (of a + z) = b * pool (of a + z) % p := fun z hz => by unfold sclP; rw [if_pos (by omega)]
  have sk : ∀ k z, k < N → k ≠ a → z < W → sclP p b (of a) W pool (of k + z) = pool (of k + z) := fun k z hk hne hz => by
    unfold sclP
    rw [if_neg]
    rintro ⟨g1, g2⟩
    exact t.dis k a hk ha hne z (of k + z - of a) hz (by omega) (by omega)
  have ra : ∀ z, z < W → clrP p W a c of (sclP p b (of a) W pool) N (of a + z) = b * pool (of a + z) % p := fun z hz => by
    rw [clr_row t1 ha N (Nat.le_refl N) a z ha hz (.inr rfl), sa z hz]
  have rk : ∀ k z, k < N → k ≠ a → z < W → _ := fun k z hk hne hz => clr_got (p := p) (by omega) t1 ha hc N (Nat.le_refl N) k z hk hne hz
  refine ⟨⟨t.len, t.dis, fun k z hk hz => ?_⟩, fun z hz => ?_, fun k hk hne z hz => ?_⟩
  · by_cases e : k = a
    · subst e; rw [ra z hz]; exact ⟨Int.emod_nonneg _ (by omega), Int.emod_lt_of_pos _ (by omega)⟩
    · exact (rk k z hk e hz).2
  · rw [ra z hz]
    exact Cg.mod (p := p) (n := 1) (v := fun _ => b * pool (of a + z)) 0 (by omega)
  · have := (rk k z hk hne hz).1
    rw [sk k z hk hne hz, sk k c hk hne hc, sa z hz] at this
    rw [ra z hz]
    exact this

theorem index_eq (K : Int → Option ρ) {s d1 d2 c : Nat} {cf : Nat → Int} (hcf : cf = fun _ => (c : Int)) (hs : s ≤ 1000) (hl : ∀ x, x < s → ln x = W) (hc : c < W) :
    slices_IndexFunc_suhf 6000 K s d1 d2 of ln cf pool = if seekN (fun x => !decide (pool (of x + c) = 0)) 0 s < s then K (seekN (fun x => !decide (pool (of x + c) = 0)) 0 s : Int) else K (-1) := by
  subst hcf
  unfold slices_IndexFunc_suhf slices_IndexFunc_suhf.s
  refine Eq.trans (loop_seek (l := fun N i => slices_IndexFunc_suhf.l0 6000 K s of ln (fun _ => (c : Int)) pool (slices_IndexFunc_suhf.a0_0 6000 K) N (i : Int)) (n := s) (fun x => !decide (pool (of x + c) = 0)) (fun i => if i < s then K (i : Int) else K (-1)) (fun q i hi => ?_) (fun q => ?_) s 0 6000 (by omega) (by omega)) rfl
  · simp only [slices_IndexFunc_suhf.l0, slices_IndexFunc_suhf.b0, impl_system_solve_c1_su]
    have h1 : (i : Int) < (s : Int) := by omega
    have h2 : (0 : Int) ≤ i ∧ (i : Int) < (s : Int) := by omega
    have h3 : (0 : Int) ≤ c ∧ (c : Int) < (W : Int) := by omega
    simp only [h1, h2, h3, hl i hi, hi, decide_true, if_true, and_self, Int.toNat_natCast, Nat.zero_add, Nat.mul_one, nx' (show i < 100000000 by omega)]
    by_cases e : pool (of i + c) = 0
    · simp [e]
    · simp [e]
  · simp only [slices_IndexFunc_suhf.l0, slices_IndexFunc_suhf.b0, Int.lt_irrefl, decide_false, Bool.false_eq_true, if_false, slices_IndexFunc_suhf.a0_0, Nat.lt_irrefl]

theorem offN_zero' {g : Nat → Nat} : offN 0 g = g := by funext z; simp [offN]

def swO {α : Type} (h : Nat → α) (d e : Nat) : Nat → α := upd (upd h d (h e)) e (h d)
theorem swO_at {α : Type} {h : Nat → α} {d e k : Nat} : swO h d e k = h (if k = e then d else if k = d then e else k) := by
  unfold swO upd
  by_cases h1 : k = e
  · rw [if_pos h1, if_pos h1]
  · rw [if_neg h1, if_neg h1]
    by_cases h2 : k = d
    · rw [if_pos h2, if_pos h2]
    · rw [if_neg h2, if_neg h2]

theorem Tbl.swap (t : Tbl p N W of ln pool) {d e : Nat} (hd : d < N) (he : e < N) : Tbl p N W (swO of d e) (swO ln d e) pool := by
  have lt : ∀ k, k < N → (if k = e then d else if k = d then e else k) < N := fun k hk => by split; exact hd; split; exact he; exact hk
  refine ⟨fun k hk => by rw [swO_at]; exact t.len _ (lt k hk), fun j k hj hk hne y z hy hz => ?_, fun k z hk hz => by rw [swO_at]; exact t.ent _ z (lt k hk) hz⟩
  rw [swO_at, swO_at]
  refine t.dis _ _ (lt j hj) (lt k hk) ?_ y z hy hz
  split <;> split <;> (try split) <;> (try split) <;> omega

theorem swap_rows {d e : Nat} : rowO (swO of d e) pool = swapR (rowO of pool) d e := by
  funext k z
  unfold rowO swapR
  rw [swO_at]
  by_cases h1 : k = e
  · simp only [if_pos h1]
  · by_cases h2 : k = d
    · simp only [if_neg h1, if_pos h2]
    · simp only [if_neg h1, if_neg h2]

theorem solve_loop (hp : isP p = true) {f : Nat → Int} (hf : f 0 = p) {mn q : Nat} (hmn : mn ≤ 8) (hN : N ≤ 1000) {G : (Nat → Int) → Prop} :
    ∀ (n fuel c d : Nat) (of ln : Nat → Nat) (pool pls : Nat → Int) (plf : Nat → Nat), c + n = mn → n < fuel → Tbl p N (mn + 1) of ln pool → Elim p N c d (rowO of pool) plf → (∀ k, k < N → p ∣ pool (of k + mn)) →
      Sub p mn (Rw N (rowO of pool)) G → Sub p mn G (Rw N (rowO of pool)) → (∀ k, k < d → pls k = (plf k : Int)) →
    ∃ (d' : Nat) (of' ln' : Nat → Nat) (pool' pls' : Nat → Int) (plf' : Nat → Nat), d' ≤ N ∧
      (∀ (K0 : Bool → Nat → Nat → Nat → (Nat → Nat) → (Nat → Nat) → (Nat → Int) → (Nat → Int) → Option ρ) (out0 : Int → Nat → (Nat → Nat) → (Nat → Nat) → (Nat → Int) → (Nat → Int) → Option ρ), impl_system_solve.l0 6000 K0 f (fun _ => (mn : Int)) N q out0 fuel (d : Int) d of ln pool (fun _ => (c : Int)) pls = out0 (d' : Int) d' of' ln' pool' pls') ∧
      Tbl p N (mn + 1) of' ln' pool' ∧ Red p mn d' (rowO of' pool') plf' ∧ (∀ k, k < N → p ∣ pool' (of' k + mn)) ∧ Sub p mn (Rw d' (rowO of' pool')) G ∧ Sub p mn G (Rw d' (rowO of' pool')) ∧ (∀ k, k < d' → pls' k = (plf' k : Int)) := by
  have hr := isP_range hp
  intro n
  induction n with
  | zero =>
    intro fuel c d of ln pool pls plf hc hfu t E hz s1 s2 hpl
    obtain ⟨fuel, rfl⟩ : ∃ k, fuel = k + 1 := ⟨fuel - 1, by omega⟩
    have : c = mn := by omega
    subst this
    obtain ⟨e1, e2, e3⟩ := E.done (Nat.le_refl c) (.inl rfl)
    refine ⟨d, of, ln, pool, pls, plf, E.dN, fun K0 out0 => ?_, t, e1, hz, e3.trans s1, s2.trans e2, hpl⟩
    simp only [impl_system_solve.l0, impl_system_solve.b0, Int.lt_irrefl, decide_false, Bool.false_eq_true, if_false]
  | succ n ih =>
    intro fuel c d of ln pool pls plf hc hfu t E hz s1 s2 hpl
    obtain ⟨fuel, rfl⟩ : ∃ k, fuel = k + 1 := ⟨fuel - 1, by omega⟩
    have hcm : (c : Int) < (mn : Int) := by omega
    have hdN := E.dN
    by_cases hd : d < N
    · have hdi : (d : Int) < (N : Int) := by omega
      have hdr : (0 : Int) ≤ d ∧ (d : Int) ≤ (N : Int) ∧ (N : Int) ≤ (N : Int) := ⟨by omega, by omega, by omega⟩
      have hdr2 : (0 : Int) ≤ d ∧ (d : Int) < (N : Int) := by omega
      -- the first row that has something there
      let E0 := seekN (fun x => !decide (pool (offN (0 + d * 1) of x + c) = 0)) 0 (N - d)
      have hE0 : E0 = seekN (fun x => !decide (pool (offN (0 + d * 1) of x + c) = 0)) 0 (N - d) := rfl
      by_cases hfound : E0 < N - d
      · have hg : pool (of (d + E0) + c) ≠ 0 := by
          have := seekN_good (good := fun x => !decide (pool (offN (0 + d * 1) of x + c) = 0)) (k := N - d) (i := 0) (by rw [← hE0]; omega)
          rw [← hE0] at this
          simp only [offN, Nat.mul_one, Nat.zero_add] at this
          simpa using this
        have hEN : d + E0 < N := by omega
        have t1 := t.swap hd hEN
        have ed : swO of d (d + E0) d = of (d + E0) := by
          rw [swO_at]
          by_cases e : d = d + E0
          · rw [if_pos e, ← e]
          · rw [if_neg e, if_pos rfl]
        have hnz : pool (swO of d (d + E0) d + c) ≠ 0 := by rw [ed]; exact hg
        have hcW : c < mn + 1 := by omega
        have hent := t1.ent d c hd hcW
        obtain ⟨v1, v2, v3⟩ := invN_ok hp (x := pool (swO of d (d + E0) d + c)) (by omega) (by omega)
        obtain ⟨t2, o1, o2⟩ := clear_ok hp t1 (c := c) hd hcW
        have E1 : Elim p N c d (rowO (swO of d (d + E0)) pool) plf := by rw [swap_rows]; exact E.swap (by omega) hEN
        have cgS : Cg p mn (rowO (swO of d (d + E0)) (clrP p (mn + 1) d c (swO of d (d + E0)) (sclP p (invN p (pool (swO of d (d + E0) d + c)) : Int) (swO of d (d + E0) d) (mn + 1) pool) N) d) fun i => (invN p (pool (swO of d (d + E0) d + c)) : Int) * rowO (swO of d (d + E0)) pool d i := fun i hi => o1 i (by omega)
        have cgO : ∀ k, k < N → k ≠ d → Cg p mn (rowO (swO of d (d + E0)) (clrP p (mn + 1) d c (swO of d (d + E0)) (sclP p (invN p (pool (swO of d (d + E0) d + c)) : Int) (swO of d (d + E0) d) (mn + 1) pool) N) k) fun i => rowO (swO of d (d + E0)) pool k i - rowO (swO of d (d + E0)) pool k c * rowO (swO of d (d + E0)) (clrP p (mn + 1) d c (swO of d (d + E0)) (sclP p (invN p (pool (swO of d (d + E0) d + c)) : Int) (swO of d (d + E0) d) (mn + 1) pool) N) d i := fun k hk hne i hi => o2 k hk hne i (by omega)
        have E2 := E1.step hd (show c < mn by omega) v3 cgS cgO
        obtain ⟨q1, q2⟩ := step_sub (p := p) (n := mn) (N := N) (c := c) hd v3 cgS cgO
        obtain ⟨q3, q4⟩ := swap_sub (p := p) (n := mn) (N := N) (S := rowO of pool) hd hEN
        rw [← swap_rows] at q3 q4
        have hzs : ∀ k, k < N → p ∣ pool (swO of d (d + E0) k + mn) := fun k hk => by
          rw [swO_at]
          exact hz _ (by split; exact hd; split; exact hEN; exact hk)
        have hz2 : ∀ k, k < N → p ∣ clrP p (mn + 1) d c (swO of d (d + E0)) (sclP p (invN p (pool (swO of d (d + E0) d + c)) : Int) (swO of d (d + E0) d) (mn + 1) pool) N (swO of d (d + E0) k + mn) := fun k hk => by
          have zd := Int.dvd_add (o1 mn (by omega)) (Int.dvd_mul_of_dvd_right (b := (invN p (pool (swO of d (d + E0) d + c)) : Int)) (hzs d hd))
          have zd' := dvd_of_eq (b := clrP p (mn + 1) d c (swO of d (d + E0)) (sclP p (invN p (pool (swO of d (d + E0) d + c)) : Int) (swO of d (d + E0) d) (mn + 1) pool) N (swO of d (d + E0) d + mn)) zd (by omega)
          by_cases e : k = d
          · subst e; exact zd'
          · have := Int.dvd_add (o2 k hk e mn (by omega)) (Int.dvd_sub (hzs k hk) (Int.dvd_mul_of_dvd_right (b := pool (swO of d (d + E0) k + c)) zd'))
            exact dvd_of_eq this (by omega)
        obtain ⟨d', of', ln', pool', pls', plf', r1, r2, r3, r4, r5, r6, r7, r8⟩ := ih fuel (c + 1) (d + 1) (swO of d (d + E0)) (swO ln d (d + E0)) _ (joinN (d * 1) pls (upd (fun _ => 0) 0 (c : Int))) _ (by omega) (by omega) t2 E2 hz2 (q1.trans (q3.trans s1)) (s2.trans (q4.trans q2)) (fun k hk => by
          unfold joinN upd
          by_cases e : k = d
          · subst e; simp
          · rw [if_pos (by omega)]; simp only [e, if_false]; exact hpl k (by omega))
        refine ⟨d', of', ln', pool', pls', plf', r1, fun K0 out0 => ?_, r3, r4, r5, r6, r7, r8⟩
        rw [← r2 K0 out0]
        have hb : (d + 1) * 8 ≤ 140737488355328 := by omega
        have ew : IntKind.i64.wrap ((d : Int) + (E0 : Int)) = ((d + E0 : Nat) : Int) := by rw [wrap64_id (by omega) (by omega)]; omega
        have hEr : (0 : Int) ≤ ((d + E0 : Nat) : Int) ∧ ((d + E0 : Nat) : Int) < (N : Int) := by omega
        have hneg : ¬ ((E0 : Nat) : Int) < 0 := by omega
        simp only [impl_system_solve.l0, impl_system_solve.b0, hcm, hdi, hdr, hdr2, decide_true, if_true, and_self, Int.toNat_natCast]
        rw [index_eq (W := mn + 1) (c := c) _ rfl (by omega) (fun x hx => by unfold offN; exact t.len _ (by omega)) (by omega)]
        rw [← hE0, if_pos hfound]
        simp only [hneg, decide_false, Bool.false_eq_true, if_false, ew, hEr, hdr2, and_self, if_true, Int.toNat_natCast, Nat.zero_add, Nat.mul_one, offN_zero']
        have ecl := impl_clear (ρ := ρ) (N := N) (W := mn + 1) (of := swO of d (d + E0)) (ln := swO ln d (d + E0)) (pool := pool) hp t1
        refine Eq.trans (ecl _ hf hd hcW (by omega) (by omega) hnz) ?_
        simp only [hb, if_true, nx' (show d < 100000000 by omega), nx' (show c < 100000000 by omega)]
        rfl
      · have hno : ∀ k, d ≤ k → k < N → pool (of k + c) = 0 := fun k h1 h2 => by
          have hE : E0 = N - d := by
            have := (seekN_range (good := fun x => !decide (pool (offN (0 + d * 1) of x + c) = 0)) (k := N - d) (i := 0)).2
            rw [← hE0] at this
            omega
          have := seekN_low (good := fun x => !decide (pool (offN (0 + d * 1) of x + c) = 0)) (k := N - d) (i := 0) (k - d) (by omega) (by rw [← hE0]; omega)
          simp only [offN, Nat.mul_one, Nat.zero_add, show d + (k - d) = k by omega] at this
          simpa using this
        obtain ⟨d', of', ln', pool', pls', plf', r1, r2, r3, r4, r5, r6, r7, r8⟩ := ih fuel (c + 1) d of ln pool pls plf (by omega) (by omega) t (E.skip fun k h1 h2 => by unfold rowO; rw [hno k h1 h2]; exact Int.dvd_zero _) hz s1 s2 hpl
        refine ⟨d', of', ln', pool', pls', plf', r1, fun K0 out0 => ?_, r3, r4, r5, r6, r7, r8⟩
        rw [← r2 K0 out0]
        simp only [impl_system_solve.l0, impl_system_solve.b0, hcm, hdi, hdr, decide_true, if_true, and_self, Int.toNat_natCast]
        rw [index_eq (W := mn + 1) (c := c) _ rfl (by omega) (fun x hx => by unfold offN; exact t.len _ (by omega)) (by omega)]
        rw [← hE0, if_neg hfound]
        simp only [show decide ((-1 : Int) < 0) = true from rfl, if_true, nx' (show c < 100000000 by omega)]
    · have hdi : ¬ (d : Int) < (N : Int) := by omega
      obtain ⟨e1, e2, e3⟩ := E.done (n := mn) (by omega) (.inr (by omega))
      refine ⟨d, of, ln, pool, pls, plf, E.dN, fun K0 out0 => ?_, t, e1, hz, e3.trans s1, s2.trans e2, hpl⟩
      simp only [impl_system_solve.l0, impl_system_solve.b0, hcm, hdi, decide_true, decide_false, Bool.false_eq_true, if_false, if_true]

end
end Go.Proofs.Ythecjjnieojjoaa.H
