/- Lists of vectors: copies, alike, marked, held. -/
import Derived.Test.YtfiopadjbheclaaHRB
import Derived.Test.YtfiopadjbheclaaHVX
namespace Go.Proofs.Ytfiopadjbheclaa.H
set_option linter.unusedVariables false
set_option linter.unusedSimpArgs false
open Go Go.RowKit Go.Proofs.Ytfiopadjbheclaa.Hy
set_option linter.unusedVariables false
set_option linter.unusedSimpArgs false
set_option maxRecDepth 100000

section
variable {ρ : Type}

/-- a copy's cells -/
def fillV (n c : Nat) (g : Nat → Int) : Nat → Int := fun z => if z < n * 8 then g z else if z < c * 8 ∧ z % 8 = 0 then 201 else 0

theorem fillV1 {i : Nat} {g : Nat → Int} : updN (fillV i i g) (i * 8) 8 (keepN 8 fun z => g (i * 8 + z)) = fillV (i + 1) (i + 1) g := by
  funext z; unfold updN fillV keepN
  by_cases h : i * 8 ≤ z ∧ z < i * 8 + 8
  · have h1 : z - i * 8 < 8 := by omega
    have h2 : z < (i + 1) * 8 := by omega
    have h3 : i * 8 + (z - i * 8) = z := by omega
    simp only [h, h1, h2, h3, and_self, if_true]
  · by_cases h2 : z < i * 8
    · have h3 : z < (i + 1) * 8 := by omega
      simp only [h, h2, h3, if_true, if_false]
    · have h3 : ¬ z < (i + 1) * 8 := by omega
      simp only [h, h2, h3, if_false, false_and]
theorem fillV2 {n i : Nat} {g : Nat → Int} (h : n ≤ i) : updN (fillV n i g) (i * 8) 8 (upd (fun _ => 0) 0 201) = fillV n (i + 1) g := by
  funext z; unfold updN fillV upd
  by_cases h1 : i * 8 ≤ z ∧ z < i * 8 + 8
  · have h2 : ¬ z < n * 8 := by omega
    by_cases h3 : z - i * 8 = 0
    · have h4 : z < (i + 1) * 8 ∧ z % 8 = 0 := by omega
      simp only [h1, h2, h3, h4, and_self, if_true, if_false]
    · have h4 : ¬ (z < (i + 1) * 8 ∧ z % 8 = 0) := by omega
      simp only [h1, h2, h3, h4, and_self, if_true, if_false]
  · by_cases h2 : z < n * 8
    · simp only [h1, h2, if_true, if_false]
    · by_cases h3 : z < i * 8 ∧ z % 8 = 0
      · have h4 : z < (i + 1) * 8 ∧ z % 8 = 0 := by omega
        simp only [h1, h2, h3, h4, and_self, if_true, if_false]
      · have h4 : ¬ (z < (i + 1) * 8 ∧ z % 8 = 0) := by omega
        simp only [h1, h2, h3, h4, if_false]

theorem fillV_at {n c z : Nat} {g : Nat → Int} (h : z < n * 8) : fillV n c g z = g z := by unfold fillV; rw [if_pos h]

theorem toVS0_eq (K1 : Nat → Nat → Nat → (Nat → Int) → Option ρ) {n c : Nat} {g : Nat → Int} (hn : n ≤ 1000000) :
    laws_toVectorS_su0 3000000 K1 n c g = K1 n (cpR n) (cpR n * 8) (fillV n (cpR n) g) := by
  have hr := rb_le (n := n)
  have hw := addB (show n < 1000000000000 by omega) (show rb n < 1000000000000 by omega)
  have hg : (0 : Int) ≤ ((n + rb n : Nat) : Int) ∧ ((n + rb n : Nat) : Int) ≤ ((n + rb n : Nat) : Int) ∧ (8 : Int) * ((n + rb n : Nat) : Int) ≤ 1099511627776 ∧ ((n + rb n : Nat) : Int) ≤ 1099511627776 := ⟨by omega, by omega, by omega, by omega⟩
  have hs0 : (fun _ => (0 : Int)) = fillV 0 0 g := by funext z; simp [fillV]
  have ha : (0 : Int) ≤ (0 : Int) ∧ (0 : Int) ≤ (n : Int) ∧ (n : Int) ≤ ((n + rb n : Nat) : Int) := ⟨by omega, by omega, by omega⟩
  unfold laws_toVectorS_su0 laws_toVectorS_su0.s
  simp only [room_eq, hw, hg, and_self, if_true]
  refine loop_at (n := n) (fun i => fillV i i g) hs0 (fun q i hi => ?_) (fun q => ?_) (by omega)
  · simp only [laws_toVectorS_su0.l0, laws_toVectorS_su0.b0, hw, Int.toNat_natCast]
    have h1 : (i : Int) < (n : Int) := by omega
    have h2 : (0 : Int) ≤ i ∧ (i : Int) < (n : Int) := by omega
    have h3 : (0 : Int) ≤ i ∧ (i : Int) < ((n + rb n : Nat) : Int) := by omega
    simp only [h1, h2, h3, decide_true, if_true, and_self, nxB (show i < 1000000000000 by omega), Nat.zero_add, Nat.mul_one, toVector_eq, fillV1]
  · simp only [laws_toVectorS_su0.l0, laws_toVectorS_su0.b0, Int.lt_irrefl, decide_false, Bool.false_eq_true, if_false, laws_toVectorS_su0.a0_0]
    refine loop_from (n := n + rb n) (fun i => fillV n i g) rfl (fun q i hi1 hi2 => ?_) (fun q => ?_) (by omega) (by omega)
    · simp only [laws_toVectorS_su0.l1, laws_toVectorS_su0.b1, hw, Int.toNat_natCast]
      have h1 : (i : Int) < ((n + rb n : Nat) : Int) := by omega
      have h3 : (0 : Int) ≤ i ∧ (i : Int) < ((n + rb n : Nat) : Int) := by omega
      simp only [h1, h3, decide_true, if_true, and_self, nxB (show i < 1000000000000 by omega), Nat.zero_add, Nat.mul_one, fillV2 hi1]
    · simp only [laws_toVectorS_su0.l1, laws_toVectorS_su0.b1, hw, Int.toNat_natCast, Int.lt_irrefl, decide_false, Bool.false_eq_true, if_false, laws_toVectorS_su0.a1_0, ha, and_self, if_true]
      rfl

theorem toVS1_eq (K0 : Option ρ) (K1 : Nat → Nat → Nat → (Nat → Int) → Option ρ) {n c : Nat} {g : Nat → Int} (hn : n ≤ 1000000) :
    laws_toVectorS_su1 3000000 K0 K1 n c g = if n = 0 then K0 else K1 n (cpR n) (cpR n * 8) (fillV n (cpR n) g) := by
  have hr := rb_le (n := n)
  have hw := addB (show n < 1000000000000 by omega) (show rb n < 1000000000000 by omega)
  have hg : (0 : Int) ≤ ((n + rb n : Nat) : Int) ∧ ((n + rb n : Nat) : Int) ≤ ((n + rb n : Nat) : Int) ∧ (8 : Int) * ((n + rb n : Nat) : Int) ≤ 1099511627776 ∧ ((n + rb n : Nat) : Int) ≤ 1099511627776 := ⟨by omega, by omega, by omega, by omega⟩
  have hs0 : (fun _ => (0 : Int)) = fillV 0 0 g := by funext z; simp [fillV]
  have ha : (0 : Int) ≤ (0 : Int) ∧ (0 : Int) ≤ (n : Int) ∧ (n : Int) ≤ ((n + rb n : Nat) : Int) := ⟨by omega, by omega, by omega⟩
  unfold laws_toVectorS_su1 laws_toVectorS_su1.s
  simp only [room_eq, hw, hg, and_self, if_true]
  by_cases h0 : n = 0
  · simp [h0]
  · have h0' : ¬ (n : Int) = 0 := by omega
    simp only [h0, h0', beq_iff_eq, if_false]
    refine loop_at (n := n) (fun i => fillV i i g) hs0 (fun q i hi => ?_) (fun q => ?_) (by omega)
    · simp only [laws_toVectorS_su1.l0, laws_toVectorS_su1.b0, hw, Int.toNat_natCast]
      have h1 : (i : Int) < (n : Int) := by omega
      have h2 : (0 : Int) ≤ i ∧ (i : Int) < (n : Int) := by omega
      have h3 : (0 : Int) ≤ i ∧ (i : Int) < ((n + rb n : Nat) : Int) := by omega
      simp only [h1, h2, h3, decide_true, if_true, and_self, nxB (show i < 1000000000000 by omega), Nat.zero_add, Nat.mul_one, toVector_eq, fillV1]
    · simp only [laws_toVectorS_su1.l0, laws_toVectorS_su1.b0, Int.lt_irrefl, decide_false, Bool.false_eq_true, if_false, laws_toVectorS_su1.a0_0]
      refine loop_from (n := n + rb n) (fun i => fillV n i g) rfl (fun q i hi1 hi2 => ?_) (fun q => ?_) (by omega) (by omega)
      · simp only [laws_toVectorS_su1.l1, laws_toVectorS_su1.b1, hw, Int.toNat_natCast]
        have h1 : (i : Int) < ((n + rb n : Nat) : Int) := by omega
        have h3 : (0 : Int) ≤ i ∧ (i : Int) < ((n + rb n : Nat) : Int) := by omega
        simp only [h1, h3, decide_true, if_true, and_self, nxB (show i < 1000000000000 by omega), Nat.zero_add, Nat.mul_one, fillV2 hi1]
      · simp only [laws_toVectorS_su1.l1, laws_toVectorS_su1.b1, hw, Int.toNat_natCast, Int.lt_irrefl, decide_false, Bool.false_eq_true, if_false, laws_toVectorS_su1.a1_0, ha, and_self, if_true]
        rfl

theorem eqVsu (K : Bool → Option ρ) {m c d : Nat} {g g' : Nat → Int} (hm : m < 100000000) (hF : m < 3000000) (h : ∀ z, z < m * 8 → g z = g' z) : laws_eqVectorS_susu 3000000 K m m c g d g' = K true := by
  unfold laws_eqVectorS_susu laws_eqVectorS_susu.s
  simp only [bne_self_eq_false, Bool.false_eq_true, if_false]
  refine go_at (n := m) (fun q i hi => ?_) (fun q => ?_) hF
  · simp only [laws_eqVectorS_susu.l0, laws_eqVectorS_susu.b0]
    have h1 : (i : Int) < (m : Int) := by omega
    have h2 : (0 : Int) ≤ i ∧ (i : Int) < (m : Int) := by omega
    simp only [h1, h2, decide_true, if_true, and_self, Int.toNat_natCast]
    rw [eqVector_of _ (fun z hz => h _ (by omega))]
    simp only [Bool.not_true, Bool.false_eq_true, if_false, nxB (show i < 1000000000000 by omega)]
  · simp only [laws_eqVectorS_susu.l0, laws_eqVectorS_susu.b0, Int.lt_irrefl, decide_false, Bool.false_eq_true, if_false, laws_eqVectorS_susu.a0_0]

theorem eqVss (K : Bool → Option ρ) {m a b c d : Nat} {g g' : Nat → Int} (hm : m < 100000000) (hF : m < 3000000) (h : ∀ z, z < m * 8 → g z = g' z) : laws_eqVectorS_ss 3000000 K m a m b c g d g' = K true := by
  unfold laws_eqVectorS_ss laws_eqVectorS_ss.s
  simp only [bne_self_eq_false, Bool.false_eq_true, if_false]
  refine go_at (n := m) (fun q i hi => ?_) (fun q => ?_) hF
  · simp only [laws_eqVectorS_ss.l0, laws_eqVectorS_ss.b0]
    have h1 : (i : Int) < (m : Int) := by omega
    have h2 : (0 : Int) ≤ i ∧ (i : Int) < (m : Int) := by omega
    simp only [h1, h2, decide_true, if_true, and_self, Int.toNat_natCast]
    rw [eqVector_of _ (fun z hz => h _ (by omega))]
    simp only [Bool.not_true, Bool.false_eq_true, if_false, nxB (show i < 1000000000000 by omega)]
  · simp only [laws_eqVectorS_ss.l0, laws_eqVectorS_ss.b0, Int.lt_irrefl, decide_false, Bool.false_eq_true, if_false, laws_eqVectorS_ss.a0_0]

theorem inVss (K : Bool → Option ρ) {n d e : Nat} {g : Nat → Int} (hn : n ≤ 1000000) : laws_intactVectorS_ss 3000000 K n (cpR n) n (cpR n) d g e g = K true := by
  have h := cpR_le (n := n)
  have h' := le_cpR (n := n)
  have hw : IntKind.i64.wrap ((n : Int) + ((rb n : Nat) : Int)) = ((cpR n : Nat) : Int) := by
    have := rb_le (n := n)
    rw [addB (by omega) (by omega)]; rfl
  unfold laws_intactVectorS_ss
  rw [room_eq]
  have h1 : (0 : Int) ≤ (0 : Int) ∧ (0 : Int) ≤ ((cpR n : Nat) : Int) ∧ ((cpR n : Nat) : Int) ≤ ((cpR n : Nat) : Int) := ⟨by omega, by omega, by omega⟩
  simp only [beq_self_eq_true, if_true, hw, h1, and_self, Int.toNat_natCast]
  exact eqVss _ (by omega) (by omega) (fun z _ => rfl)

/-- the first n cells are marked -/
def mkB (g : Nat → Int) (n : Nat) : Nat → Int := fun z => if z < n then IntKind.u8.wrap (101 + (z : Int)) else g z

theorem mkB_zero {g : Nat → Int} : mkB g 0 = g := by funext z; simp [mkB]
theorem mkB_next {g : Nat → Int} {n : Nat} : upd (mkB g n) n (IntKind.u8.wrap (101 + (n : Int))) = mkB g (n + 1) := by
  funext z
  unfold upd mkB
  by_cases h : z = n
  · rw [if_pos h, if_pos (by omega), h]
  · rw [if_neg h]
    by_cases h2 : z < n
    · rw [if_pos h2, if_pos (by omega)]
    · rw [if_neg h2, if_neg (by omega)]

theorem nkB {a i : Nat} (h : a + i < 1000000000000) : IntKind.i64.wrap (101 + ((a + i : Nat) : Int) + 1) = 101 + ((a + (i + 1) : Nat) : Int) := by
  rw [wrap64_id (by omega) (by omega)]; omega

theorem markVsu (K : Int → (Nat → Int) → Option ρ) {m c : Nat} {g : Nat → Int} (hm : m ≤ 1000000) : laws_markVectorS_su 3000000 K m 101 c g = K (101 + ((m * 8 : Nat) : Int)) (mkB g (m * 8)) := by
  unfold laws_markVectorS_su laws_markVectorS_su.s
  refine loop_tat (n := m) (fun i => 101 + ((i * 8 : Nat) : Int)) (fun i => mkB g (i * 8)) (by simp) (by simp only [Nat.zero_mul, mkB_zero]) (fun q i hi => ?_) (fun q => ?_) (by omega)
  · simp only [laws_markVectorS_su.l0, laws_markVectorS_su.b0]
    have h1 : (i : Int) < (m : Int) := by omega
    have h2 : (0 : Int) ≤ i ∧ (i : Int) < (m : Int) := by omega
    simp only [h1, decide_true, if_true]
    refine loop_tat (n := 8) (fun j => 101 + ((i * 8 + j : Nat) : Int)) (fun j => mkB g (i * 8 + j)) (by simp) (by simp) (fun q' j hj => ?_) (fun q' => ?_) (by omega)
    · simp only [laws_markVectorS_su.l1, laws_markVectorS_su.b1]
      have g1 : (j : Int) < 8 := by omega
      have g2 : (0 : Int) ≤ j ∧ (j : Int) < 8 := by omega
      simp only [g1, g2, h2, decide_true, if_true, and_self, Int.toNat_natCast, Nat.mul_one, Nat.zero_add, nx (show j < 100000 by omega), mkB_next, nkB (show i * 8 + j < 1000000000000 by omega), Nat.add_assoc]
    · simp only [laws_markVectorS_su.l1, laws_markVectorS_su.b1, not8, decide_false, Bool.false_eq_true, if_false, laws_markVectorS_su.a1_0, nxB (show i < 1000000000000 by omega)]
      rw [show i * 8 + 8 = (i + 1) * 8 by omega]
  · simp only [laws_markVectorS_su.l0, laws_markVectorS_su.b0, Int.lt_irrefl, decide_false, Bool.false_eq_true, if_false, laws_markVectorS_su.a0_0]

theorem markVs (K : Int → (Nat → Int) → Option ρ) {m a c : Nat} {g : Nat → Int} (hm : m ≤ 1000000) : laws_markVectorS_s 3000000 K m a 101 c g = K (101 + ((m * 8 : Nat) : Int)) (mkB g (m * 8)) := by
  unfold laws_markVectorS_s laws_markVectorS_s.s
  refine loop_tat (n := m) (fun i => 101 + ((i * 8 : Nat) : Int)) (fun i => mkB g (i * 8)) (by simp) (by simp only [Nat.zero_mul, mkB_zero]) (fun q i hi => ?_) (fun q => ?_) (by omega)
  · simp only [laws_markVectorS_s.l0, laws_markVectorS_s.b0]
    have h1 : (i : Int) < (m : Int) := by omega
    have h2 : (0 : Int) ≤ i ∧ (i : Int) < (m : Int) := by omega
    simp only [h1, decide_true, if_true]
    refine loop_tat (n := 8) (fun j => 101 + ((i * 8 + j : Nat) : Int)) (fun j => mkB g (i * 8 + j)) (by simp) (by simp) (fun q' j hj => ?_) (fun q' => ?_) (by omega)
    · simp only [laws_markVectorS_s.l1, laws_markVectorS_s.b1]
      have g1 : (j : Int) < 8 := by omega
      have g2 : (0 : Int) ≤ j ∧ (j : Int) < 8 := by omega
      simp only [g1, g2, h2, decide_true, if_true, and_self, Int.toNat_natCast, Nat.mul_one, Nat.zero_add, nx (show j < 100000 by omega), mkB_next, nkB (show i * 8 + j < 1000000000000 by omega), Nat.add_assoc]
    · simp only [laws_markVectorS_s.l1, laws_markVectorS_s.b1, not8, decide_false, Bool.false_eq_true, if_false, laws_markVectorS_s.a1_0, nxB (show i < 1000000000000 by omega)]
      rw [show i * 8 + 8 = (i + 1) * 8 by omega]
  · simp only [laws_markVectorS_s.l0, laws_markVectorS_s.b0, Int.lt_irrefl, decide_false, Bool.false_eq_true, if_false, laws_markVectorS_s.a0_0]

theorem heldVsu (K : Int → Option ρ) {m c : Nat} {g : Nat → Int} (hm : m ≤ 1000000) (h : ∀ z, z < m * 8 → g z = IntKind.u8.wrap (101 + (z : Int))) : laws_heldVectorS_su 3000000 K m 101 c g = K (101 + ((m * 8 : Nat) : Int)) := by
  unfold laws_heldVectorS_su laws_heldVectorS_su.s
  refine loop_ta (n := m) (fun i => 101 + ((i * 8 : Nat) : Int)) (by simp) (fun q i hi => ?_) (fun q => ?_) (by omega)
  · simp only [laws_heldVectorS_su.l0, laws_heldVectorS_su.b0]
    have h1 : (i : Int) < (m : Int) := by omega
    have h2 : (0 : Int) ≤ i ∧ (i : Int) < (m : Int) := by omega
    simp only [h1, decide_true, if_true]
    refine loop_ta (n := 8) (fun j => 101 + ((i * 8 + j : Nat) : Int)) (by simp) (fun q' j hj => ?_) (fun q' => ?_) (by omega)
    · simp only [laws_heldVectorS_su.l1, laws_heldVectorS_su.b1]
      have g1 : (j : Int) < 8 := by omega
      have g2 : (0 : Int) ≤ j ∧ (j : Int) < 8 := by omega
      simp only [g1, g2, h2, decide_true, if_true, and_self, Int.toNat_natCast, Nat.mul_one, Nat.zero_add, nx (show j < 100000 by omega), h _ (show i * 8 + j < m * 8 by omega), bne_self_eq_false, Bool.false_eq_true, if_false, nkB (show i * 8 + j < 1000000000000 by omega), Nat.add_assoc]
    · simp only [laws_heldVectorS_su.l1, laws_heldVectorS_su.b1, not8, decide_false, Bool.false_eq_true, if_false, laws_heldVectorS_su.a1_0, nxB (show i < 1000000000000 by omega)]
      rw [show i * 8 + 8 = (i + 1) * 8 by omega]
  · simp only [laws_heldVectorS_su.l0, laws_heldVectorS_su.b0, Int.lt_irrefl, decide_false, Bool.false_eq_true, if_false, laws_heldVectorS_su.a0_0]

theorem mkB_held {r g : Nat → Int} {m : Nat} : ∀ z, z < m * 8 → (fun z => updN r 0 (m * 8) (mkB g (m * 8)) (0 + z)) z = IntKind.u8.wrap (101 + (z : Int)) := by
  intro z hz
  simp only [updN, mkB, Nat.zero_add]
  rw [if_pos (by omega), Nat.sub_zero, if_pos hz]

end
end Go.Proofs.Ytfiopadjbheclaa.H
