/- ReduceVectors: the law. -/
import Derived.Test.YtfiopadjbheclaaHRW
import Derived.Test.YtfiopadjbheclaaHRX1
namespace Go.Proofs.Ytfiopadjbheclaa.H
set_option linter.unusedVariables false
set_option linter.unusedSimpArgs false
open Go Go.RowKit Go.Proofs.Ytfiopadjbheclaa.Hy
set_option linter.unusedVariables false
set_option linter.unusedSimpArgs false
set_option maxRecDepth 100000

section
variable {ρ : Type}

/-- all vectors of a list fit -/
def allV (p n : Int) (m : Nat) (g : Nat → Int) : Bool := allN (fun i => vecB p n (rw8 g i)) 0 m

theorem vecB_same {p n : Int} {v w : Nat → Int} (h : ∀ z, z < 8 → v z = w z) : vecB p n v = vecB p n w := by
  unfold vecB
  refine allN_congr fun j _ hj => ?_
  rw [h j (by omega)]

theorem allV_congr {p n : Int} {m : Nat} {g g' : Nat → Int} (h : ∀ z, z < m * 8 → g z = g' z) : allV p n m g = allV p n m g' := by
  unfold allV
  exact allN_congr fun i _ hi => vecB_same fun z hz => h _ (by omega)

theorem vecB_in {p n : Int} {v : Nat → Int} (h : vecB p n v = true) (hb : ∀ i, i < 8 → 0 ≤ v i ∧ v i ≤ 255) : inP p v := by
  intro i hi
  unfold vecB at h
  rw [allN_true] at h
  have := h i (by omega) (by omega)
  simp only [Bool.and_eq_true, Bool.not_eq_true', decide_eq_false_iff_not] at this
  have h1 := this.1
  have h2 := hb i hi
  rw [wrap64_id (by omega) (by omega)] at h1
  omega

theorem many_eq (K : Int → Option ρ) {p n : Int} {m a c : Nat} {g : Nat → Int} (hm : m ≤ 1000000) : spec_l01Many_s 3000000 K p n m a c g = K (if (sizB p n && allV p n m g) = true then 0 else 1) := by
  unfold spec_l01Many_s spec_l01Many_s.s
  rw [spec_sizes]
  cases hs : sizB p n
  · rfl
  · simp only [Bool.not_true, Bool.false_eq_true, if_false, Bool.true_and]
    refine Eq.trans (all_at (n := m) (no := K 1) (out := K 0) (fun i => vecB p n (rw8 g i)) (fun q i hi => ?_) (fun q => ?_) (by omega)) ?_
    · simp only [spec_l01Many_s.l0, spec_l01Many_s.b0]
      have h1 : (i : Int) < (m : Int) := by omega
      have h2 : (0 : Int) ≤ i ∧ (i : Int) < (m : Int) := by omega
      simp only [h1, h2, decide_true, if_true, and_self, Int.toNat_natCast, Nat.zero_add, nx' (show i < 100000000 by omega), spec_vector]
      show (if (!vecB p n (rw8 g i)) = true then _ else _) = _
      cases vecB p n (rw8 g i) <;> rfl
    · simp only [spec_l01Many_s.l0, spec_l01Many_s.b0, Int.lt_irrefl, decide_false, Bool.false_eq_true, if_false, spec_l01Many_s.a0_0]
    · show _ = K (if allV p n m g = true then 0 else 1)
      unfold allV
      cases allN (fun i => vecB p n (rw8 g i)) 0 m <;> rfl

theorem wrong_eq (K : Bool → Option ρ) {p n : Int} {m a c : Nat} {g : Nat → Int} (hm : m ≤ 1000000) : slices_ContainsFunc_sf 3000000 K m a c g (fun _ => p) (fun _ => n) = K (!allN (fun i => sizB p n && vecB p n (rw8 g i)) 0 m) := by
  unfold slices_ContainsFunc_sf slices_IndexFunc_sf slices_IndexFunc_sf.s
  simp only [Nat.zero_add]
  refine Eq.trans (all_at (n := m) (no := K true) (out := K false) (fun i => sizB p n && vecB p n (rw8 g i)) (fun q i hi => ?_) (fun q => ?_) (by omega)) ?_
  · simp only [slices_IndexFunc_sf.l0, slices_IndexFunc_sf.b0, impl_ReduceVectors_c1, impl_isVector]
    have h1 : (i : Int) < (m : Int) := by omega
    have h2 : (0 : Int) ≤ i ∧ (i : Int) < (m : Int) := by omega
    have h3 : (i : Int) ≥ 0 := by omega
    simp only [h1, h2, h3, decide_true, if_true, and_self, Int.toNat_natCast, Nat.zero_add, nx' (show i < 100000000 by omega)]
    show (if (!(sizB p n && vecB p n (rw8 g i))) = true then _ else _) = _
    cases (sizB p n && vecB p n (rw8 g i)) <;> rfl
  · simp only [slices_IndexFunc_sf.l0, slices_IndexFunc_sf.b0, Int.lt_irrefl, decide_false, Bool.false_eq_true, if_false, slices_IndexFunc_sf.a0_0]
    rfl
  · cases allN (fun i => sizB p n && vecB p n (rw8 g i)) 0 m <;> rfl

theorem zeroV {p n : Int} (h : sizB p n = true) : vecB p n (fun _ => 0) = true := by
  unfold sizB at h
  simp only [Bool.and_eq_true] at h
  have hr := isP_range h.1
  unfold vecB
  rw [allN_true]
  intro j _ _
  have : ¬ IntKind.i64.wrap (0 : Int) ≥ p := by rw [wrap64_id (by omega) (by omega)]; omega
  simp [this]

theorem spec_redM {p : Int} {L : Nat → Int} {m a c : Nat} (hp : isP p = true) (hm : m ≤ 1000000) (hL : ∀ i, i < m → inP p (rw8 L i)) (K : Nat → (Nat → Int) → Option ρ) : spec_l01Reduce_s 3000000 K p m a c L = K (redM p L m).1 (redM p L m).2 := by
  unfold spec_l01Reduce_s spec_l01Reduce_s.s
  have main := loop_st (l := fun F (i : Nat) (s : Nat × (Nat → Int)) => spec_l01Reduce_s.l0 3000000 K p m L (fun ov11 ov12 => spec_l01Reduce_s.a0_0 3000000 K ov11 ov12) F s.1 (i : Int) s.2) (n := m) (out := K (redM p L m).1 (redM p L m).2) (fun i => redM p L i) (fun q i hi => ?_) (fun q => ?_) m 0 3000000 (by omega) (by omega)
  · exact main
  · simp only [spec_l01Reduce_s.l0, spec_l01Reduce_s.b0]
    have h1 : (i : Int) < (m : Int) := by omega
    have h2 : (0 : Int) ≤ i ∧ (i : Int) < (m : Int) := by omega
    simp only [h1, h2, decide_true, if_true, and_self, Int.toNat_natCast, Nat.zero_add, nx' (show i < 100000000 by omega)]
    obtain ⟨l, r1, _, _⟩ := redM_ok hp hL i (by omega)
    have := spec_put (ρ := ρ) hp r1 (hL i hi) (fun r gg => spec_l01Reduce_s.l0 3000000 K p m L (fun ov11 ov12 => spec_l01Reduce_s.a0_0 3000000 K ov11 ov12) q r ((i + 1 : Nat) : Int) gg) (c := (redM p L i).1 * 8)
    simp only [Nat.zero_add] at this
    exact this
  · simp only [spec_l01Reduce_s.l0, spec_l01Reduce_s.b0, Int.lt_irrefl, decide_false, Bool.false_eq_true, if_false, spec_l01Reduce_s.a0_0]

/-- what both answer, of lists that are alike -/
theorem both_reduce {p n : Int} {m : Nat} {g : Nat → Int} (hm : m ≤ 1000000) (hg : ∀ z, z < m * 8 → 0 ≤ g z ∧ g z ≤ 255) :
    ∃ (rn : Nat) (rc : Int) (rg : Nat → Int), rn ≤ 8 ∧
      (∀ (a c : Nat) (g' : Nat → Int) (X : Nat → Int → (Nat → Int) → Option ρ), (∀ z, z < m * 8 → g' z = g z) → ∃ rg' : Nat → Int, (∀ z, z < rn * 8 → rg' z = rg z) ∧ spec_ReduceVectors_s 3000000 X p n m a c g' = X rn rc rg') ∧
      (∀ (a c : Nat) (g' : Nat → Int), (∀ z, z < m * 8 → g' z = g z) → ∃ rg' : Nat → Int, (∀ z, z < rn * 8 → rg' z = rg z) ∧ ∀ X : Nat → Int → (Nat → Int) → Option ρ, impl_ReduceVectors_s 3000000 X p n m a c g' = X rn rc rg') ∧
      (m = 0 → ∀ X : Nat → Int → (Nat → Int) → Option ρ, impl_ReduceVectors_n 3000000 X p n = X rn rc (fun _ => 0) ∧ rn = 0) := by
  by_cases hs : sizB p n = true
  · have hp : isP p = true := by
      have := hs
      unfold sizB at this
      simp only [Bool.and_eq_true] at this
      exact this.1
    have hr := isP_range hp
    by_cases hv : allV p n m g = true
    · have hL : ∀ i, i < m → inP p (rw8 g i) := fun i hi => by
        unfold allV at hv
        rw [allN_true] at hv
        exact vecB_in (hv i (by omega) (by omega)) fun j hj => hg _ (by omega)
      obtain ⟨l, r1, _, _⟩ := redM_ok hp hL m (Nat.le_refl m)
      refine ⟨(redM p g m).1, 0, (redM p g m).2, r1.red.many, fun a c g' X hgg => ?_, fun a c g' hgg => ?_, fun hm0 X => ?_⟩
      · have hL' : ∀ i, i < m → inP p (rw8 g' i) := fun i hi z hz => by
          have := hL i hi z hz
          unfold rw8 at *
          rw [hgg _ (by omega)]; exact this
        obtain ⟨l', q1, q2, q3⟩ := redM_ok hp hL' m (Nat.le_refl m)
        obtain ⟨l2, s1, s2, s3⟩ := redM_ok hp hL m (Nat.le_refl m)
        have sL : Sub p 8 (Rw m (rw8 g')) (Rw m (rw8 g)) := by
          rintro r ⟨k, hk, rfl⟩; exact (Sp.of ⟨k, hk, rfl⟩).cg (Cg.of_eq fun i hi => hgg _ (by omega))
        have sL' : Sub p 8 (Rw m (rw8 g)) (Rw m (rw8 g')) := by
          rintro r ⟨k, hk, rfl⟩; exact (Sp.of ⟨k, hk, rfl⟩).cg (Cg.of_eq fun i hi => (hgg _ (by omega)).symm)
        obtain ⟨e, s⟩ := q1.same (by omega) s1 (q2.trans (sL.trans s3)) (s2.trans (sL'.trans q3))
        refine ⟨(redM p g' m).2, fun z hz => s z (by omega), ?_⟩
        unfold spec_ReduceVectors_s
        rw [many_eq _ hm]
        simp only [Nat.zero_add, allV_congr hgg, hs, hv, Bool.and_self, if_true, bne_self_eq_false, Bool.false_eq_true, if_false]
        rw [spec_redM hp hm hL', e]
      · obtain ⟨gg, h1, h2⟩ := reduced_same (ρ := ρ) (a := a) (b := a * 8) hp hm hL (L' := g') hgg
        refine ⟨gg, h2, fun X => ?_⟩
        unfold impl_ReduceVectors_s
        rw [wrong_eq _ hm]
        simp only [Nat.zero_add, impl_isVector, hs, zeroV hs, Bool.true_and, Bool.not_true, Bool.false_eq_true, if_false]
        have : allN (fun i => vecB p n (rw8 g' i)) 0 m = true := by
          have := allV_congr (p := p) (n := n) hgg
          unfold allV at this hv
          rw [this, hv]
        simp only [this, Bool.not_true, Bool.false_eq_true, if_false]
        exact h1 _
      · subst hm0
        refine ⟨?_, rfl⟩
        unfold impl_ReduceVectors_n slices_ContainsFunc_nf slices_IndexFunc_nf slices_IndexFunc_nf.s
        simp only [slices_IndexFunc_nf.l0, slices_IndexFunc_nf.b0, slices_IndexFunc_nf.a0_0, impl_isVector, hs, zeroV hs, Bool.and_self, Bool.not_true, Bool.false_eq_true, if_false]
        rfl
    · have hv' : allV p n m g = false := by simpa using hv
      refine ⟨0, 1, fun _ => 0, by omega, fun a c g' X hgg => ⟨fun _ => 0, fun z hz => rfl, ?_⟩, fun a c g' hgg => ⟨fun _ => 0, fun z hz => rfl, fun X => ?_⟩, fun hm0 X => ?_⟩
      · unfold spec_ReduceVectors_s
        rw [many_eq _ hm]
        simp only [Nat.zero_add, allV_congr hgg, hv', Bool.and_false, Bool.false_eq_true, if_false]
        rfl
      · unfold impl_ReduceVectors_s
        rw [wrong_eq _ hm]
        have : allN (fun i => vecB p n (rw8 g' i)) 0 m = false := by
          have := allV_congr (p := p) (n := n) hgg
          unfold allV at this hv'
          rw [this, hv']
        simp only [Nat.zero_add, impl_isVector, hs, zeroV hs, Bool.true_and, this, Bool.not_true, Bool.not_false, Bool.false_eq_true, if_false, if_true]
      · subst hm0
        exact absurd hv' (by unfold allV allN; simp)
  · have hs' : sizB p n = false := by simpa using hs
    refine ⟨0, 1, fun _ => 0, by omega, fun a c g' X hgg => ⟨fun _ => 0, fun z hz => rfl, ?_⟩, fun a c g' hgg => ⟨fun _ => 0, fun z hz => rfl, fun X => ?_⟩, fun hm0 X => ⟨?_, rfl⟩⟩
    · unfold spec_ReduceVectors_s
      rw [many_eq _ hm]
      simp only [hs', Bool.false_and, Bool.false_eq_true, if_false]
      rfl
    · unfold impl_ReduceVectors_s
      rw [wrong_eq _ hm]
      simp only [impl_isVector, hs', Bool.false_and, Bool.not_false, if_true]
    · unfold impl_ReduceVectors_n slices_ContainsFunc_nf slices_IndexFunc_nf slices_IndexFunc_nf.s
      simp only [slices_IndexFunc_nf.l0, slices_IndexFunc_nf.b0, slices_IndexFunc_nf.a0_0, impl_isVector, hs', Bool.false_and, Bool.not_false, if_true]

theorem fnExactReduceVectors_law (K : Bool → Option ρ) (p n : Int) (m bn : Nat) (g : Nat → Int) (h0 : IntKind.i64.has p) (h1 : IntKind.i64.has n) (hm : m ≤ maxLen) (hg : ∀ z, IntKind.u8.has (g z)) : laws_FnExactReduceVectors_su 3000000 K p n m bn g = K true := by
  unfold laws_FnExactReduceVectors_su laws_szVectorS_su
  have hml : m ≤ 9223372036854775807 := hm
  rw [wrap64_id (show -9223372036854775808 ≤ (1000000 : Int) - m by omega) (by omega)]
  by_cases hlt : (1000000 : Int) - m < 0
  · simp [hlt]
  · have hm' : m ≤ 1000000 := by omega
    have hb : ∀ z, z < m * 8 → 0 ≤ g z ∧ g z ≤ 255 := fun z _ => hg z
    simp only [hlt, decide_false, Bool.false_eq_true, if_false, toVS0_eq _ hm', toVS1_eq _ _ hm', Nat.zero_add]
    obtain ⟨rn, rc, rg, h8, hs, hi, hn⟩ := both_reduce (ρ := ρ) (p := p) (n := n) hm' hb
    have hcp : ∀ z, z < m * 8 → fillV m (cpR m) (fun z => g z) z = g z := fun z hz => fillV_at hz
    obtain ⟨gs, s1, s2⟩ := hs (cpR m) (cpR m * 8) (fillV m (cpR m) fun z => g z) _ hcp
    refine Eq.trans s2 ?_
    obtain ⟨gi, i1, i2⟩ := hi (cpR m) (cpR m * 8) (fillV m (cpR m) fun z => g z) hcp
    refine Eq.trans (i2 _) ?_
    have e1 : ∀ z, z < rn * 8 → gi z = gs z := fun z hz => by rw [i1 z hz, s1 z hz]
    refine Eq.trans (eqVsu _ (by omega) (by omega) e1) ?_
    simp only [Bool.not_true, Bool.false_eq_true, if_false, bne_self_eq_false, inVss _ hm', markVs _ hm']
    have hmp : ¬ 101 + ((m * 8 : Nat) : Int) < 0 := by omega
    simp only [hmp, decide_false, Bool.false_eq_true, if_false]
    refine Eq.trans (eqVsu _ (by omega) (by omega) e1) ?_
    simp only [Bool.not_true, Bool.false_eq_true, if_false, bne_self_eq_false]
    have hrp : ¬ 101 + ((rn * 8 : Nat) : Int) < 0 := by omega
    refine Eq.trans (markVsu _ (by omega)) ?_
    have hh : ∀ z, z < rn * 8 → (fun z => updN gi 0 (rn * 8) (mkB (fun z => gi z) (rn * 8)) z) z = IntKind.u8.wrap (101 + (z : Int)) := fun z hz => by
      have := mkB_held (r := gi) (g := fun z => gi z) (m := rn) z hz
      simpa using this
    refine Eq.trans (heldVsu _ (by omega) hh) ?_
    simp only [hrp, decide_false, Bool.false_eq_true, if_false, bne_self_eq_false]
    by_cases e : m = 0
    · rw [if_pos e, (hn e _).1]
      have r0 := (hn e (fun _ _ _ => K true)).2
      refine Eq.trans (eqVsu _ (by omega) (by omega) (fun z hz => by omega)) ?_
      simp only [Bool.not_true, Bool.false_eq_true, if_false, bne_self_eq_false]
      refine Eq.trans (heldVsu _ (by omega) hh) ?_
      simp only [hrp, decide_false, Bool.false_eq_true, if_false, bne_self_eq_false]
    · rw [if_neg e]
      refine Eq.trans (i2 _) ?_
      refine Eq.trans (eqVsu _ (by omega) (by omega) e1) ?_
      simp only [Bool.not_true, Bool.false_eq_true, if_false, bne_self_eq_false]
      refine Eq.trans (heldVsu _ (by omega) hh) ?_
      simp only [hrp, decide_false, Bool.false_eq_true, if_false, bne_self_eq_false]

end
end Go.Proofs.Ytfiopadjbheclaa.H
