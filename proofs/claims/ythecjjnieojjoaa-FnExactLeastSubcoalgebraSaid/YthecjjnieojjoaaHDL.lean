/- LeastSubcoalgebra: the law. -/
import Derived.Test.YthecjjnieojjoaaHRW
import Derived.Test.YthecjjnieojjoaaHRX1
namespace Go.Proofs.Ythecjjnieojjoaa.H
set_option linter.unusedVariables false
set_option linter.unusedSimpArgs false
open Go Go.RowKit Go.Proofs.Ythecjjnieojjoaa.Hy
set_option linter.unusedVariables false
set_option linter.unusedSimpArgs false
set_option maxRecDepth 100000

section
variable {ρ : Type} {c0 c1 v : Nat → Int} {n : Nat}

/-- what is to the right of e(j) -/
def inM (c0 c1 v : Nat → Int) (n j : Nat) : Nat → Int := coM c0 c1 (fun z => coM c0 c1 v n n 0 (j * 8 + z)) n n 0
/-- the first n of what is to the left of e(l) -/
def owN (I : Nat → Int) (l n : Nat) : Nat → Int := fun z => if z < n then I (z * 8 + l) else 0
/-- the vectors one by one -/
def owV (c0 c1 v : Nat → Int) (n t : Nat) : Nat → Int := owN (inM c0 c1 v n (t / n)) (t % n) n
/-- the program's list after j rounds -/
def liS (c0 c1 v : Nat → Int) (n : Nat) : Nat → Nat → Int
  | 0 => fun _ => 0
  | j + 1 => joinN (j * n * 8) (liS c0 c1 v n j) (trTo (inM c0 c1 v n j) 64)

theorem siz_pr {p k : Int} (h : sizB p k = true) : isP p = true := by
  unfold sizB at h
  simp only [Bool.and_eq_true] at h
  exact h.1

theorem coM_out {w : Nat → Int} {i x : Nat} (h : n * 8 ≤ x) : coM c0 c1 w n i 0 x = 0 := by
  unfold coM; rw [if_neg (by omega)]

theorem owN_at (hn : n ≤ 8) {I : Nat → Int} (hI : ∀ x, n * 8 ≤ x → I x = 0) {l z : Nat} (hl : l < 8) (hz : z < 8) : owN I l n z = trTo I 64 (l * 8 + z) := by
  unfold owN trTo
  rw [if_pos (show l * 8 + z < 64 by omega), show (l * 8 + z) % 8 = z by omega, show (l * 8 + z) / 8 = l by omega]
  by_cases h : z < n
  · rw [if_pos h]
  · rw [if_neg h, hI _ (by omega)]

theorem liS_row (hn : n ≤ 8) : ∀ {j t z : Nat}, t < j * n → z < 8 → rw8 (liS c0 c1 v n j) t z = owV c0 c1 v n t z
  | 0, t, z, h, _ => by omega
  | j + 1, t, z, h, hz => by
    have hn0 : 0 < n := by
      rcases Nat.eq_zero_or_pos n with e | e
      · subst e; simp at h
      · exact e
    have hjn : (j + 1) * n = j * n + n := by rw [Nat.add_mul, Nat.one_mul]
    by_cases e : t < j * n
    · have ih := liS_row hn (j := j) e hz
      rw [← ih]
      unfold rw8
      simp only [liS]
      unfold joinN
      rw [if_pos (by omega)]
    · have h1 : t / n = j := by
        rw [Nat.div_eq_iff hn0]; omega
      have h2 : t % n = t - j * n := by
        have := Nat.div_add_mod t n
        rw [h1, Nat.mul_comm] at this; omega
      unfold owV
      rw [h1, h2, owN_at hn (I := inM c0 c1 v n j) (fun x hx => by unfold inM; exact coM_out hx) (by omega) hz]
      unfold rw8
      simp only [liS]
      unfold joinN
      rw [if_neg (by omega)]
      congr 1; omega

theorem owV_in (hp : 0 < c0 0) (hn : n ≤ 8) (t : Nat) : inP (c0 0) (owV c0 c1 v n t) := by
  intro z hz
  unfold owV owN
  split
  · have hl : t % n < 8 := by
      have : t % n < n := Nat.mod_lt _ (by omega)
      omega
    exact coM_in hp (q := z) (t % n) hl
  · omega

theorem own_next {I : Nat → Int} {l k : Nat} : upd (owN I l k) k (I (k * 8 + l)) = owN I l (k + 1) := by
  funext z; unfold upd owN
  by_cases h : z = k
  · subst h; rw [if_pos rfl, if_pos (by omega)]
  · rw [if_neg h]
    by_cases h2 : z < k
    · rw [if_pos h2, if_pos (by omega)]
    · rw [if_neg h2, if_neg (by omega)]

theorem spec_sub (h : Shp c0 c1 n) (hv : inP (c0 0) v) (K : Nat → (Nat → Int) → Option ρ) : spec_l02Sub 6000 K c0 c1 v = K (redV (c0 0) (owV c0 c1 v n) (n * n)).1 (redV (c0 0) (owV c0 c1 v n) (n * n)).2 := by
  have hn := h.le
  have hp : isP (c0 0) = true := siz_pr h.siz
  have hs := h.size
  unfold spec_l02Sub spec_l02Sub.s
  rw [spec_coproduct h _ hv]
  have main := loop_st (l := fun F (j : Nat) (s : Nat × (Nat → Int)) => spec_l02Sub.l0 6000 K c0 c1 (coM c0 c1 v n n 0) (fun ov19 ov20 => spec_l02Sub.a0_0 6000 K ov19 ov20) F s.1 (j : Int) s.2) (n := n) (out := K (redV (c0 0) (owV c0 c1 v n) (n * n)).1 (redV (c0 0) (owV c0 c1 v n) (n * n)).2)
    (fun j => redV (c0 0) (owV c0 c1 v n) (j * n)) (fun q j hj => ?_) (fun q => ?_) n 0 6000 (by omega) (by omega)
  · simpa [redV] using main
  · simp only [spec_l02Sub.l0, spec_l02Sub.b0, hs]
    have h1 : (j : Int) < (n : Int) := by omega
    have h2 : (0 : Int) ≤ j ∧ (j : Int) < 8 := by omega
    simp only [h1, h2, decide_true, if_true, and_self, Int.toNat_natCast, Nat.zero_add, nx (show j < 100000 by omega)]
    rw [spec_coproduct h _ (coM_in h.p0 (q := j))]
    have m2 := loop_st (l := fun F (t : Nat) (s : Nat × (Nat → Int)) => spec_l02Sub.l1 6000 K c0 (inM c0 c1 v n j) (fun ov17 ov18 => spec_l02Sub.a1_0 6000 K (spec_l02Sub.l0 6000 K c0 c1 (coM c0 c1 v n n 0) (fun ov19 ov20 => spec_l02Sub.a0_0 6000 K ov19 ov20) q) (fun ov19 ov20 => spec_l02Sub.a0_0 6000 K ov19 ov20) (j : Int) ov17 ov18) F s.1 (t : Int) s.2) (n := n)
      (out := spec_l02Sub.l0 6000 K c0 c1 (coM c0 c1 v n n 0) (fun ov19 ov20 => spec_l02Sub.a0_0 6000 K ov19 ov20) q (redV (c0 0) (owV c0 c1 v n) ((j + 1) * n)).1 ((j + 1 : Nat) : Int) (redV (c0 0) (owV c0 c1 v n) ((j + 1) * n)).2)
      (fun t => redV (c0 0) (owV c0 c1 v n) (j * n + t)) (fun q2 t ht => ?_) (fun q2 => ?_) n 0 6000 (by omega) (by omega)
    · exact m2
    · simp only [spec_l02Sub.l1, spec_l02Sub.b1, hs]
      have k1 : (t : Int) < (n : Int) := by omega
      have k2 : (0 : Int) ≤ t ∧ (t : Int) < 8 := by omega
      simp only [k1, decide_true, if_true]
      have ow : owV c0 c1 v n (j * n + t) = owN (inM c0 c1 v n j) t n := by
        unfold owV
        have e1 : (j * n + t) / n = j := by rw [Nat.div_eq_iff (by omega)]; omega
        have e2 : (j * n + t) % n = t := by
          have := Nat.div_add_mod (j * n + t) n
          rw [e1, Nat.mul_comm] at this; omega
        rw [e1, e2]
      refine loop_at (n := n) (fun k => owN (inM c0 c1 v n j) t k) (by funext z; simp [owN]) (fun q3 k hk => ?_) (fun q3 => ?_) (by omega)
      · simp only [spec_l02Sub.l2, spec_l02Sub.b2, hs]
        have g1 : (k : Int) < (n : Int) := by omega
        have g2 : (0 : Int) ≤ k ∧ (k : Int) < 8 := by omega
        simp only [g1, g2, k2, decide_true, if_true, and_self, Int.toNat_natCast, Nat.mul_one, nx (show k < 100000 by omega), own_next]
      · simp only [spec_l02Sub.l2, spec_l02Sub.b2, hs, Int.lt_irrefl, decide_false, Bool.false_eq_true, if_false, spec_l02Sub.a2_0, nx (show t < 100000 by omega)]
        obtain ⟨l, r1, _, _⟩ := redV_ok hp (V := owV c0 c1 v n) (N := n * n + n) (fun i _ => owV_in h.p0 hn i) (j * n + t) (by have : j * n ≤ n * n := Nat.mul_le_mul_right n (by omega); omega)
        have hsp := spec_put (ρ := ρ) hp r1 (owV_in (c1 := c1) (v := v) h.p0 hn (j * n + t)) (fun r gg => spec_l02Sub.l1 6000 K c0 (inM c0 c1 v n j) (fun ov17 ov18 => spec_l02Sub.a1_0 6000 K (spec_l02Sub.l0 6000 K c0 c1 (coM c0 c1 v n n 0) (fun ov19 ov20 => spec_l02Sub.a0_0 6000 K ov19 ov20) q) (fun ov19 ov20 => spec_l02Sub.a0_0 6000 K ov19 ov20) (j : Int) ov17 ov18) q2 r ((t + 1 : Nat) : Int) gg) (c := (redV (c0 0) (owV c0 c1 v n) (j * n + t)).1 * 8)
        rw [ow] at hsp
        refine Eq.trans hsp ?_
        have : redV (c0 0) (owV c0 c1 v n) (j * n + (t + 1)) = putM (c0 0) (redV (c0 0) (owV c0 c1 v n) (j * n + t)).1 (redV (c0 0) (owV c0 c1 v n) (j * n + t)).2 (owN (inM c0 c1 v n j) t n) := by
          rw [← ow]; rfl
        rw [this]
    · simp only [spec_l02Sub.l1, spec_l02Sub.b1, hs, Int.lt_irrefl, decide_false, Bool.false_eq_true, if_false, spec_l02Sub.a1_0, nx (show j < 100000 by omega)]
      rw [Nat.add_mul, Nat.one_mul]
  · simp only [spec_l02Sub.l0, spec_l02Sub.b0, hs, Int.lt_irrefl, decide_false, Bool.false_eq_true, if_false, spec_l02Sub.a0_0]

theorem impl_least (h : Shp c0 c1 n) (hv : inP (c0 0) v) : ∃ gi : Nat → Int, (∀ z, z < (redV (c0 0) (owV c0 c1 v n) (n * n)).1 * 8 → gi z = (redV (c0 0) (owV c0 c1 v n) (n * n)).2 z) ∧
    ∀ K : Nat → Int → (Nat → Int) → Option ρ, impl_LeastSubcoalgebra.l0 6000 K c0 c1 (upd (upd (fun _ => 0) 0 (c0 0)) 1 (c0 1)) (coM c0 c1 v n n 0) (fun ov11 ov12 => impl_LeastSubcoalgebra.a0_0 6000 K (upd (upd (fun _ => 0) 0 (c0 0)) 1 (c0 1)) ov11 ov12) 6000 0 0 (fun _ => 0) = K (redV (c0 0) (owV c0 c1 v n) (n * n)).1 0 gi := by
  have hn := h.le
  have hp : isP (c0 0) = true := siz_pr h.siz
  have f0 : upd (upd (fun _ => 0) 0 (c0 0)) 1 (c0 1) 0 = c0 0 := fld0
  have f1 : upd (upd (fun _ => 0) 0 (c0 0)) 1 (c0 1) 1 = (n : Int) := by rw [fld1]; exact h.size
  have hnn : n * n ≤ 64 := by have := Nat.mul_le_mul hn hn; omega
  obtain ⟨gi, g1, g2⟩ := reduced_sameV (ρ := ρ) (a := n * n * 8) (b := 0) hp (V := owV c0 c1 v n) (L' := liS c0 c1 v n n) (N := n * n) (by omega) (fun i _ => owV_in h.p0 hn i) (fun k z hk hz => liS_row hn hk hz)
  refine ⟨gi, g2, fun K => ?_⟩
  have main := loop_st (l := fun F (j : Nat) (s : Nat × (Nat → Int)) => impl_LeastSubcoalgebra.l0 6000 K c0 c1 (upd (upd (fun _ => 0) 0 (c0 0)) 1 (c0 1)) (coM c0 c1 v n n 0) (fun ov11 ov12 => impl_LeastSubcoalgebra.a0_0 6000 K (upd (upd (fun _ => 0) 0 (c0 0)) 1 (c0 1)) ov11 ov12) F s.1 (j : Int) s.2) (n := n) (out := K (redV (c0 0) (owV c0 c1 v n) (n * n)).1 0 gi) (fun j => (j * n, liS c0 c1 v n j)) (fun q j hj => ?_) (fun q => ?_) n 0 6000 (by omega) (by omega)
  · simpa [liS] using main
  · simp only [impl_LeastSubcoalgebra.l0, impl_LeastSubcoalgebra.b0, f1]
    have h1 : (j : Int) < (n : Int) := by omega
    have h2 : (0 : Int) ≤ j ∧ (j : Int) < 8 := by omega
    have h3 : (0 : Int) ≤ (0 : Int) ∧ (0 : Int) ≤ (n : Int) ∧ (n : Int) ≤ 8 := ⟨by omega, by omega, by omega⟩
    have hjn : j * n ≤ 64 := by have := Nat.mul_le_mul (show j ≤ 8 by omega) hn; omega
    have hb : (j * n + n) * 8 ≤ 140737488355328 := by omega
    simp only [h1, h2, decide_true, if_true, and_self, Int.toNat_natCast, nx (show j < 100000 by omega)]
    rw [impl_coproduct h _ (coM_in h.p0 (q := j)), impl_transposed_eq]
    simp only [h3, hb, and_self, if_true]
    rw [show (j + 1) * n = j * n + n by rw [Nat.add_mul, Nat.one_mul]]
    rfl
  · simp only [impl_LeastSubcoalgebra.l0, impl_LeastSubcoalgebra.b0, f1, f0, Int.lt_irrefl, decide_false, Bool.false_eq_true, if_false, impl_LeastSubcoalgebra.a0_0, Nat.zero_add]
    exact g1 _

theorem least_s (h : Shp c0 c1 n) (hv : inP (c0 0) v) (hb : ∀ i, i < 520 → 0 ≤ c1 i ∧ c1 i ≤ 255) (hc : (coB c0 c1 && listB (c0 0) (c0 1) (fun z => v (0 + z)) 1) = true) (K : Nat → Int → (Nat → Int) → Option ρ) (lp0 : (Nat → Int) → (Nat → Int) → Nat → Int → (Nat → Int) → Option ρ) :
    impl_LeastSubcoalgebra.s 6000 K lp0 c0 c1 v = lp0 (upd (upd (fun _ => 0) 0 (c0 0)) 1 (c0 1)) (coM c0 c1 v n n 0) 0 0 (fun _ => 0) := by
  rw [impl_LeastSubcoalgebra.s, impl_cocode8 hb _ _ (show 1 < 900 by omega), if_pos hc]
  simp only [bne_self_eq_false, Bool.false_eq_true, if_false, impl_Coalgebra_field]
  rw [impl_coproduct h _ hv]
theorem least_n (hb : ∀ i, i < 520 → 0 ≤ c1 i ∧ c1 i ≤ 255) (hc : ¬ (coB c0 c1 && listB (c0 0) (c0 1) (fun z => v (0 + z)) 1) = true) (K : Nat → Int → (Nat → Int) → Option ρ) (lp0 : (Nat → Int) → (Nat → Int) → Nat → Int → (Nat → Int) → Option ρ) :
    impl_LeastSubcoalgebra.s 6000 K lp0 c0 c1 v = K 0 1 (fun _ => 0) := by
  rw [impl_LeastSubcoalgebra.s, impl_cocode8 hb _ _ (show 1 < 900 by omega), if_neg hc]
  simp only [show ((1 : Int) != 0) = true from by decide, if_true]

theorem both_least (hb : ∀ i, i < 520 → 0 ≤ c1 i ∧ c1 i ≤ 255) (hv8 : ∀ i, 0 ≤ v i ∧ v i ≤ 255) : ∃ (rn : Nat) (rc : Int) (rg gi : Nat → Int), rn ≤ 8 ∧ (∀ z, z < rn * 8 → gi z = rg z) ∧
      (∀ X : Nat → Int → (Nat → Int) → Option ρ, spec_LeastSubcoalgebra 6000 X c0 c1 v = X rn rc rg) ∧
      (∀ X : Nat → Int → (Nat → Int) → Option ρ, impl_LeastSubcoalgebra 6000 X c0 c1 v = X rn rc gi) := by
  by_cases hc : (coB c0 c1 && listB (c0 0) (c0 1) (fun z => v (0 + z)) 1) = true
  · have hc' := hc
    rw [Bool.and_eq_true] at hc'
    obtain ⟨n, h⟩ := coB_shp hc'.1 hb
    have hv : inP (c0 0) v := one_fst (listB_in hc'.2 (fun i hi => one_vec hv8) (show 0 < 1 by omega))
    have r0 := redV_ok (siz_pr h.siz) (V := owV c0 c1 v n) (N := n * n) (fun i _ => owV_in h.p0 h.le i) (n * n) (Nat.le_refl _)
    have i0 := impl_least (ρ := ρ) h hv
    have s0 := fun K => spec_sub (ρ := ρ) h hv K
    generalize redV (c0 0) (owV c0 c1 v n) (n * n) = R at r0 i0 s0
    obtain ⟨l, r1, _, _⟩ := r0
    obtain ⟨gi, g1, g2⟩ := i0
    refine ⟨R.1, 0, R.2, gi, r1.red.many, g1, fun X => ?_, fun X => ?_⟩
    · rw [spec_LeastSubcoalgebra, spec_cocode8 hb _ _ (show 1 < 900 by omega), if_pos hc]
      simp only [bne_self_eq_false, Bool.false_eq_true, if_false]
      exact s0 _
    · rw [impl_LeastSubcoalgebra]
      exact (least_s h hv hb hc X _).trans (g2 X)
  · refine ⟨0, 1, fun _ => 0, fun _ => 0, by omega, fun z hz => rfl, fun X => ?_, fun X => ?_⟩
    · rw [spec_LeastSubcoalgebra, spec_cocode8 hb _ _ (show 1 < 900 by omega), if_neg hc]
      simp only [show ((1 : Int) != 0) = true from by decide, if_true]
    · rw [impl_LeastSubcoalgebra]
      exact least_n hb hc X _

theorem fnExactLeastSubcoalgebra_law (K : Bool → Option ρ) (a0 a1 v : Nat → Int) (h0 : ∀ i, IntKind.i64.has (a0 i)) (h1 : ∀ i, IntKind.u8.has (a1 i)) (h2 : ∀ i, IntKind.u8.has (v i)) : laws_FnExactLeastSubcoalgebra 6000 K a0 a1 v = K true := by
  rw [laws_FnExactLeastSubcoalgebra]
  simp only [toCoalgebra_eq, toVector_eq]
  obtain ⟨rn, rc, rg, gi, h8, e1, hs, hi⟩ := both_least (ρ := ρ) (c0 := keepN 2 a0) (c1 := keepN 520 a1) (v := keepN 8 v) (keepN_byte h1) (keepN_byte' h2)
  simp only [hs, hi, Nat.zero_add]
  refine Eq.trans (eqVsu _ (by omega) (by omega) e1) ?_
  simp only [Bool.not_true, Bool.false_eq_true, if_false, bne_self_eq_false]
  have hrp : ¬ 101 + ((rn * 8 : Nat) : Int) < 0 := by omega
  refine Eq.trans (markVsu _ (by omega)) ?_
  have hh : ∀ z, z < rn * 8 → (fun z => updN gi 0 (rn * 8) (mkB (fun z => gi z) (rn * 8)) z) z = IntKind.u8.wrap (101 + (z : Int)) := fun z hz => by
    have := mkB_held (r := gi) (g := fun z => gi z) (m := rn) z hz
    simpa using this
  refine Eq.trans (heldVsu _ (by omega) hh) ?_
  simp only [hrp, decide_false, Bool.false_eq_true, if_false, bne_self_eq_false]
  refine Eq.trans (eqVsu _ (by omega) (by omega) e1) ?_
  simp only [Bool.not_true, Bool.false_eq_true, if_false, bne_self_eq_false]
  refine Eq.trans (heldVsu _ (by omega) hh) ?_
  simp only [hrp, decide_false, Bool.false_eq_true, if_false, bne_self_eq_false]

end
end Go.Proofs.Ythecjjnieojjoaa.H
