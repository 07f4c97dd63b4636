/- Tables of numbers: their copies, their sizes; a copy has the rows of what it was made of. -/
import Derived.Test.YtiifnnokpjbapaaRRHP0
import Derived.Test.YtiifnnokpjbapaaRRHyMath
import Derived.KernelRfl
namespace Go.Proofs.YtiifnnokpjbapaaRR.H
set_option linter.unusedVariables false
set_option linter.unusedSimpArgs false
open Go Go.RowKit Go.Proofs.YtiifnnokpjbapaaRR.Hy
set_option linter.unusedVariables false
set_option linter.unusedSimpArgs false
set_option maxRecDepth 100000

section
variable {ρ σ : Type}

theorem nxB {i : Nat} (h : i < 1000000000000) : IntKind.i64.wrap ((i : Int) + 1) = ((i + 1 : Nat) : Int) := by
  rw [wrap64_id (by omega) (by omega)]; omega
theorem addB {i j : Nat} (h : i < 1000000000000) (h' : j < 1000000000000) : IntKind.i64.wrap ((i : Int) + (j : Int)) = ((i + j : Nat) : Int) := by
  rw [wrap64_id (by omega) (by omega)]; omega
theorem offN_zero {g : Nat → Nat} : offN 0 g = g := by funext z; simp [offN]

/-- a loop that begins at a -/
theorem loop_from {l : Nat → Int → σ → Option ρ} {a n N : Nat} {out : Option ρ} {s0 : σ} (st : Nat → σ) (h0 : s0 = st a) (hs : ∀ m i : Nat, a ≤ i → i < n → l (m + 1) (i : Int) (st i) = l m ((i + 1 : Nat) : Int) (st (i + 1)))
    (ho : ∀ m, l (m + 1) (n : Int) (st n) = out) (ha : a ≤ n) (hn : n < N) : l N (a : Int) s0 = out := by
  rw [h0]
  have := loop_st (l := fun m i s => l m ((a + i : Nat) : Int) s) (n := n - a) (fun i => st (a + i)) (out := out) (fun m i hi => hs m (a + i) (by omega) (by omega)) (fun m => by
    have e : a + (n - a) = n := by omega
    simp only [e]; exact ho m) (n - a) 0 N (by omega) (by omega)
  simpa using this

/-- the room behind a list of n -/
def rb (n : Nat) : Nat := if n % 6 = 5 then 0 else if n % 3 = 0 then 1 else n
def cpR (n : Nat) : Nat := n + rb n

theorem rb_le {n : Nat} : rb n ≤ n + 1 := by unfold rb; split <;> (try split) <;> omega
theorem cpR_le {n : Nat} : cpR n ≤ 2 * n + 1 := by have := rb_le (n := n); unfold cpR; omega
theorem le_cpR {n : Nat} : n ≤ cpR n := by unfold cpR; omega

theorem room_eq (K : Int → Option ρ) (n : Nat) : laws_roomBehind 3000000 K (n : Int) = K ((rb n : Nat) : Int) := by
  have e1 : Int.tmod (n : Int) 6 = ((n % 6 : Nat) : Int) := rfl
  have e2 : Int.tmod (n : Int) 3 = ((n % 3 : Nat) : Int) := rfl
  unfold laws_roomBehind rb
  rw [e1, e2]
  by_cases h : n % 6 = 5
  · simp [h]
  · have h' : ¬ ((n % 6 : Nat) : Int) = 5 := by omega
    by_cases g : n % 3 = 0
    · simp only [h, g, if_false, beq_iff_eq, h', if_true, Int.ofNat_zero, Int.natCast_zero, Int.natCast_one, BEq.rfl]
    · have g' : ¬ ((n % 3 : Nat) : Int) = 0 := by omega
      simp only [h, g, if_false, beq_iff_eq, h', g']

/-- a list's copy -/
def fillR (n c : Nat) (g : Nat → Int) : Nat → Int := fun z => if z < n then g z else if z < c then -7000000000000000101 else 0

theorem fill1 {n i : Nat} {g : Nat → Int} : upd (fillR i i g) i (g i) = fillR (i + 1) (i + 1) g := by
  funext z; unfold upd fillR
  by_cases h : z = i
  · subst h; simp
  · by_cases h2 : z < i
    · have : z < i + 1 := by omega
      simp [h, h2, this]
    · have : ¬ z < i + 1 := by omega
      simp [h, h2, this]
theorem fill2 {n i : Nat} {g : Nat → Int} (h : n ≤ i) : upd (fillR n i g) i (-7000000000000000101) = fillR n (i + 1) g := by
  funext z; unfold upd fillR
  by_cases h1 : z = i
  · subst h1
    have : ¬ z < n := by omega
    simp [this]
  · by_cases h3 : z < n
    · simp [h1, h3]
    · by_cases h2 : z < i
      · have : z < i + 1 := by omega
        simp [h1, h2, h3, this]
      · have : ¬ z < i + 1 := by omega
        simp [h1, h2, h3, this]

theorem toS1_eq (K0 : Option ρ) (K1 : Nat → Nat → Nat → (Nat → Int) → Option ρ) {n c : Nat} {g : Nat → Int} (hn : n ≤ 1000000) :
    laws_toInt64S_su1 3000000 K0 K1 n c g = if n = 0 then K0 else K1 n (cpR n) (cpR n) (fillR n (cpR n) g) := by
  have hr := rb_le (n := n)
  have hc : n + rb n < 1000000000000 := by omega
  have hw := addB (show n < 1000000000000 by omega) (show rb n < 1000000000000 by omega)
  have hg : (0 : Int) ≤ ((n + rb n : Nat) : Int) ∧ ((n + rb n : Nat) : Int) ≤ ((n + rb n : Nat) : Int) ∧ (8 : Int) * ((n + rb n : Nat) : Int) ≤ 1099511627776 ∧ ((n + rb n : Nat) : Int) ≤ 1099511627776 := ⟨by omega, by omega, by omega, by omega⟩
  have hs0 : (fun _ => (0 : Int)) = fillR 0 0 g := by funext z; simp [fillR]
  have ha : (0 : Int) ≤ (0 : Int) ∧ (0 : Int) ≤ (n : Int) ∧ (n : Int) ≤ ((n + rb n : Nat) : Int) := ⟨by omega, by omega, by omega⟩
  unfold laws_toInt64S_su1 laws_toInt64S_su1.s
  simp only [room_eq, hw, hg, and_self, if_true]
  have A : laws_toInt64S_su1.l0 3000000 K0 K1 n g ((rb n : Nat) : Int) (fun ov7 => laws_toInt64S_su1.a0_0 3000000 K0 K1 (fun i8 gv9 => laws_toInt64S_su1.l1 3000000 K0 K1 n ((rb n : Nat) : Int) (fun ov10 => laws_toInt64S_su1.a1_0 3000000 K0 K1 n ((rb n : Nat) : Int) ov10) 3000000 i8 gv9) n ov7) 3000000 0 (fun _ => 0) = K1 n (cpR n) (cpR n) (fillR n (cpR n) g) := by
    refine loop_at (n := n) (fun i => fillR i i g) hs0 (fun q i hi => ?_) (fun q => ?_) (by omega)
    · simp only [laws_toInt64S_su1.l0, laws_toInt64S_su1.b0, hw, Int.toNat_natCast]
      have h1 : (i : Int) < (n : Int) := by omega
      have h2 : (0 : Int) ≤ i ∧ (i : Int) < (n : Int) := by omega
      have h3 : (0 : Int) ≤ i ∧ (i : Int) < ((n + rb n : Nat) : Int) := by omega
      simp only [h1, h2, h3, decide_true, if_true, and_self, nxB (show i < 1000000000000 by omega), Nat.zero_add, Nat.mul_one, fill1 (n := n)]
    · simp only [laws_toInt64S_su1.l0, laws_toInt64S_su1.b0, Int.lt_irrefl, decide_false, Bool.false_eq_true, if_false, laws_toInt64S_su1.a0_0]
      refine loop_from (n := n + rb n) (fun i => fillR n i g) rfl (fun q i hi1 hi2 => ?_) (fun q => ?_) (by omega) (by omega)
      · simp only [laws_toInt64S_su1.l1, laws_toInt64S_su1.b1, hw, Int.toNat_natCast]
        have h1 : (i : Int) < ((n + rb n : Nat) : Int) := by omega
        have h3 : (0 : Int) ≤ i ∧ (i : Int) < ((n + rb n : Nat) : Int) := by omega
        simp only [h1, h3, decide_true, if_true, and_self, nxB (show i < 1000000000000 by omega), Nat.zero_add, Nat.mul_one, fill2 hi1]
      · simp only [laws_toInt64S_su1.l1, laws_toInt64S_su1.b1, hw, Int.toNat_natCast, Int.lt_irrefl, decide_false, Bool.false_eq_true, if_false, laws_toInt64S_su1.a1_0, ha, and_self, if_true, Nat.mul_one]
        rfl
  rw [A]
  by_cases h : n = 0
  · simp [h]
  · have h' : ¬ (n : Int) = 0 := by omega
    simp only [h, h', beq_iff_eq, if_false]

theorem toS0_eq (K1 : Nat → Nat → Nat → (Nat → Int) → Option ρ) {n c : Nat} {g : Nat → Int} (hn : n ≤ 1000000) :
    laws_toInt64S_su0 3000000 K1 n c g = K1 n (cpR n) (cpR n) (fillR n (cpR n) g) := by
  have hr := rb_le (n := n)
  have hc : n + rb n < 1000000000000 := by omega
  have hw := addB (show n < 1000000000000 by omega) (show rb n < 1000000000000 by omega)
  have hg : (0 : Int) ≤ ((n + rb n : Nat) : Int) ∧ ((n + rb n : Nat) : Int) ≤ ((n + rb n : Nat) : Int) ∧ (8 : Int) * ((n + rb n : Nat) : Int) ≤ 1099511627776 ∧ ((n + rb n : Nat) : Int) ≤ 1099511627776 := ⟨by omega, by omega, by omega, by omega⟩
  have hs0 : (fun _ => (0 : Int)) = fillR 0 0 g := by funext z; simp [fillR]
  have ha : (0 : Int) ≤ (0 : Int) ∧ (0 : Int) ≤ (n : Int) ∧ (n : Int) ≤ ((n + rb n : Nat) : Int) := ⟨by omega, by omega, by omega⟩
  unfold laws_toInt64S_su0 laws_toInt64S_su0.s
  simp only [room_eq, hw, hg, and_self, if_true]
  have A : laws_toInt64S_su0.l0 3000000 K1 n g ((rb n : Nat) : Int) (fun ov7 => laws_toInt64S_su0.a0_0 3000000 K1 (fun i8 gv9 => laws_toInt64S_su0.l1 3000000 K1 n ((rb n : Nat) : Int) (fun ov10 => laws_toInt64S_su0.a1_0 3000000 K1 n ((rb n : Nat) : Int) ov10) 3000000 i8 gv9) n ov7) 3000000 0 (fun _ => 0) = K1 n (cpR n) (cpR n) (fillR n (cpR n) g) := by
    refine loop_at (n := n) (fun i => fillR i i g) hs0 (fun q i hi => ?_) (fun q => ?_) (by omega)
    · simp only [laws_toInt64S_su0.l0, laws_toInt64S_su0.b0, hw, Int.toNat_natCast]
      have h1 : (i : Int) < (n : Int) := by omega
      have h2 : (0 : Int) ≤ i ∧ (i : Int) < (n : Int) := by omega
      have h3 : (0 : Int) ≤ i ∧ (i : Int) < ((n + rb n : Nat) : Int) := by omega
      simp only [h1, h2, h3, decide_true, if_true, and_self, nxB (show i < 1000000000000 by omega), Nat.zero_add, Nat.mul_one, fill1 (n := n)]
    · simp only [laws_toInt64S_su0.l0, laws_toInt64S_su0.b0, Int.lt_irrefl, decide_false, Bool.false_eq_true, if_false, laws_toInt64S_su0.a0_0]
      refine loop_from (n := n + rb n) (fun i => fillR n i g) rfl (fun q i hi1 hi2 => ?_) (fun q => ?_) (by omega) (by omega)
      · simp only [laws_toInt64S_su0.l1, laws_toInt64S_su0.b1, hw, Int.toNat_natCast]
        have h1 : (i : Int) < ((n + rb n : Nat) : Int) := by omega
        have h3 : (0 : Int) ≤ i ∧ (i : Int) < ((n + rb n : Nat) : Int) := by omega
        simp only [h1, h3, decide_true, if_true, and_self, nxB (show i < 1000000000000 by omega), Nat.zero_add, Nat.mul_one, fill2 hi1]
      · simp only [laws_toInt64S_su0.l1, laws_toInt64S_su0.b1, hw, Int.toNat_natCast, Int.lt_irrefl, decide_false, Bool.false_eq_true, if_false, laws_toInt64S_su0.a1_0, ha, and_self, if_true, Nat.mul_one]
        rfl
  exact A

/-- a table that is being made -/
structure TS5 where
  q : Nat
  o : Nat → Nat
  l : Nat → Nat
  c : Nat → Nat
  g : Nat → Int

/-- after i rows -/
def tsS (bare : Bool) (of ln : Nat → Nat) (g : Nat → Int) : Nat → TS5
  | 0 => ⟨0, fun _ => 0, fun _ => 0, fun _ => 0, fun _ => 0⟩
  | i + 1 =>
    let s := tsS bare of ln g i
    if (bare && decide (ln i = 0)) = true then ⟨s.q, upd s.o i 0, upd s.l i 0, upd s.c i 0, s.g⟩
    else ⟨s.q + cpR (ln i), upd s.o i s.q, upd s.l i (ln i), upd s.c i (cpR (ln i)), joinN s.q s.g (fillR (ln i) (cpR (ln i)) fun z => g (of i + z))⟩

/-- with t spare rows from m on -/
def tsE (m : Nat) (s : TS5) : Nat → TS5
  | 0 => s
  | t + 1 =>
    let s' := tsE m s t
    ⟨s'.q + 1, upd s'.o (m + t) s'.q, upd s'.l (m + t) 1, upd s'.c (m + t) 1, joinN s'.q s'.g (upd (fun _ => 0) 0 (-7000000000000000101))⟩

def ts (bare : Bool) (m : Nat) (of ln : Nat → Nat) (g : Nat → Int) : TS5 := tsE m (tsS bare of ln g m) (rb m)

theorem tsE_next {m i : Nat} {s : TS5} (h : m ≤ i) : tsE m s (i + 1 - m) = ⟨(tsE m s (i - m)).q + 1, upd (tsE m s (i - m)).o i (tsE m s (i - m)).q, upd (tsE m s (i - m)).l i 1, upd (tsE m s (i - m)).c i 1, joinN (tsE m s (i - m)).q (tsE m s (i - m)).g (upd (fun _ => 0) 0 (-7000000000000000101))⟩ := by
  have e : i + 1 - m = (i - m) + 1 := by omega
  rw [e]
  simp only [tsE]
  have e2 : m + (i - m) = i := by omega
  rw [e2]

theorem toSS1_eq (K0 : Option ρ) (K1 : Nat → Nat → Nat → Nat → (Nat → Nat) → (Nat → Nat) → (Nat → Nat) → (Nat → Int) → Option ρ) {m a b c : Nat} {of ln : Nat → Nat} {g : Nat → Int} (hn : m ≤ 1000000) (hl : ∀ i, i < m → ln i ≤ 1000000) :
    laws_toInt64SS_suh1 3000000 K0 K1 m a b of ln c g = if m = 0 then K0 else K1 m (cpR m) (cpR m) (ts true m of ln g).q (ts true m of ln g).o (ts true m of ln g).l (ts true m of ln g).c (ts true m of ln g).g := by
  have hr := rb_le (n := m)
  have hw := addB (show m < 1000000000000 by omega) (show rb m < 1000000000000 by omega)
  have hg : (0 : Int) ≤ ((m + rb m : Nat) : Int) ∧ ((m + rb m : Nat) : Int) ≤ ((m + rb m : Nat) : Int) ∧ (24 : Int) * ((m + rb m : Nat) : Int) ≤ 1099511627776 ∧ ((m + rb m : Nat) : Int) ≤ 1099511627776 := ⟨by omega, by omega, by omega, by omega⟩
  have ha : (0 : Int) ≤ (0 : Int) ∧ (0 : Int) ≤ (m : Int) ∧ (m : Int) ≤ ((m + rb m : Nat) : Int) := ⟨by omega, by omega, by omega⟩
  unfold laws_toInt64SS_suh1 laws_toInt64SS_suh1.s
  simp only [room_eq, hw, hg, and_self, if_true]
  have A : laws_toInt64SS_suh1.l0 3000000 K0 K1 m of ln g ((rb m : Nat) : Int) (fun ov19 ov20 ov21 ov22 ov23 => laws_toInt64SS_suh1.a0_0 3000000 K0 K1 (fun i24 gv25 gv26 gv27 gv28 gv29 => laws_toInt64SS_suh1.l1 3000000 K0 K1 m ((rb m : Nat) : Int) (fun ov30 ov31 ov32 ov33 ov34 => laws_toInt64SS_suh1.a1_0 3000000 K0 K1 m ((rb m : Nat) : Int) ov30 ov31 ov32 ov33 ov34) 3000000 i24 gv25 gv26 gv27 gv28 gv29) m ov19 ov20 ov21 ov22 ov23) 3000000 0 0 (fun _ => 0) (fun _ => 0) (fun _ => 0) (fun _ => 0)
      = K1 m (cpR m) (cpR m) (ts true m of ln g).q (ts true m of ln g).o (ts true m of ln g).l (ts true m of ln g).c (ts true m of ln g).g := by
    refine loop_at (l := fun N i (s : TS5) => laws_toInt64SS_suh1.l0 3000000 K0 K1 m of ln g ((rb m : Nat) : Int) (fun ov19 ov20 ov21 ov22 ov23 => laws_toInt64SS_suh1.a0_0 3000000 K0 K1 (fun i24 gv25 gv26 gv27 gv28 gv29 => laws_toInt64SS_suh1.l1 3000000 K0 K1 m ((rb m : Nat) : Int) (fun ov30 ov31 ov32 ov33 ov34 => laws_toInt64SS_suh1.a1_0 3000000 K0 K1 m ((rb m : Nat) : Int) ov30 ov31 ov32 ov33 ov34) 3000000 i24 gv25 gv26 gv27 gv28 gv29) m ov19 ov20 ov21 ov22 ov23) N i s.q s.o s.l s.c s.g)
      (s0 := ⟨0, fun _ => 0, fun _ => 0, fun _ => 0, fun _ => 0⟩) (n := m) (fun i => tsS true of ln g i) rfl (fun q i hi => ?_) (fun q => ?_) (by omega)
    · simp only [laws_toInt64SS_suh1.l0, laws_toInt64SS_suh1.b0, hw, Int.toNat_natCast]
      have h1 : (i : Int) < (m : Int) := by omega
      have h2 : (0 : Int) ≤ i ∧ (i : Int) < (m : Int) := by omega
      have h3 : (0 : Int) ≤ i ∧ (i : Int) < ((m + rb m : Nat) : Int) := by omega
      simp only [h1, h2, h3, decide_true, if_true, and_self, nxB (show i < 1000000000000 by omega), Nat.zero_add, Nat.mul_one, toS1_eq _ _ (hl i hi), tsS]
      by_cases hb : ln i = 0
      · simp only [hb, if_true, Bool.true_and, decide_true]
      · simp only [hb, if_false, Bool.true_and, decide_false, Bool.false_eq_true]
    · simp only [laws_toInt64SS_suh1.l0, laws_toInt64SS_suh1.b0, Int.lt_irrefl, decide_false, Bool.false_eq_true, if_false, laws_toInt64SS_suh1.a0_0]
      refine loop_from (l := fun N i (s : TS5) => laws_toInt64SS_suh1.l1 3000000 K0 K1 m ((rb m : Nat) : Int) (fun ov30 ov31 ov32 ov33 ov34 => laws_toInt64SS_suh1.a1_0 3000000 K0 K1 m ((rb m : Nat) : Int) ov30 ov31 ov32 ov33 ov34) N i s.q s.o s.l s.c s.g)
        (s0 := tsS true of ln g m) (n := m + rb m) (fun i => tsE m (tsS true of ln g m) (i - m)) (by rw [Nat.sub_self]; rfl) (fun q i hi1 hi2 => ?_) (fun q => ?_) (by omega) (by omega)
      · simp only [laws_toInt64SS_suh1.l1, laws_toInt64SS_suh1.b1, hw, Int.toNat_natCast]
        have h1 : (i : Int) < ((m + rb m : Nat) : Int) := by omega
        have h3 : (0 : Int) ≤ i ∧ (i : Int) < ((m + rb m : Nat) : Int) := by omega
        simp only [h1, h3, decide_true, if_true, and_self, nxB (show i < 1000000000000 by omega), Nat.zero_add, Nat.mul_one, tsE_next hi1]
      · simp only [laws_toInt64SS_suh1.l1, laws_toInt64SS_suh1.b1, hw, Int.toNat_natCast, Int.lt_irrefl, decide_false, Bool.false_eq_true, if_false, laws_toInt64SS_suh1.a1_0, ha, and_self, if_true, Nat.mul_one]
        have e : m + rb m - m = rb m := by omega
        rw [e]
        rfl
  rw [A]
  by_cases h : m = 0
  · simp [h]
  · have h' : ¬ (m : Int) = 0 := by omega
    simp only [h, h', beq_iff_eq, if_false]

theorem toSS0_eq (K1 : Nat → Nat → Nat → Nat → (Nat → Nat) → (Nat → Nat) → (Nat → Nat) → (Nat → Int) → Option ρ) {m a b c : Nat} {of ln : Nat → Nat} {g : Nat → Int} (hn : m ≤ 1000000) (hl : ∀ i, i < m → ln i ≤ 1000000) :
    laws_toInt64SS_suh0 3000000 K1 m a b of ln c g = K1 m (cpR m) (cpR m) (ts false m of ln g).q (ts false m of ln g).o (ts false m of ln g).l (ts false m of ln g).c (ts false m of ln g).g := by
  have hr := rb_le (n := m)
  have hw := addB (show m < 1000000000000 by omega) (show rb m < 1000000000000 by omega)
  have hg : (0 : Int) ≤ ((m + rb m : Nat) : Int) ∧ ((m + rb m : Nat) : Int) ≤ ((m + rb m : Nat) : Int) ∧ (24 : Int) * ((m + rb m : Nat) : Int) ≤ 1099511627776 ∧ ((m + rb m : Nat) : Int) ≤ 1099511627776 := ⟨by omega, by omega, by omega, by omega⟩
  have ha : (0 : Int) ≤ (0 : Int) ∧ (0 : Int) ≤ (m : Int) ∧ (m : Int) ≤ ((m + rb m : Nat) : Int) := ⟨by omega, by omega, by omega⟩
  unfold laws_toInt64SS_suh0 laws_toInt64SS_suh0.s
  simp only [room_eq, hw, hg, and_self, if_true]
  have A : laws_toInt64SS_suh0.l0 3000000 K1 m of ln g ((rb m : Nat) : Int) (fun ov19 ov20 ov21 ov22 ov23 => laws_toInt64SS_suh0.a0_0 3000000 K1 (fun i24 gv25 gv26 gv27 gv28 gv29 => laws_toInt64SS_suh0.l1 3000000 K1 m ((rb m : Nat) : Int) (fun ov30 ov31 ov32 ov33 ov34 => laws_toInt64SS_suh0.a1_0 3000000 K1 m ((rb m : Nat) : Int) ov30 ov31 ov32 ov33 ov34) 3000000 i24 gv25 gv26 gv27 gv28 gv29) m ov19 ov20 ov21 ov22 ov23) 3000000 0 0 (fun _ => 0) (fun _ => 0) (fun _ => 0) (fun _ => 0)
      = K1 m (cpR m) (cpR m) (ts false m of ln g).q (ts false m of ln g).o (ts false m of ln g).l (ts false m of ln g).c (ts false m of ln g).g := by
    refine loop_at (l := fun N i (s : TS5) => laws_toInt64SS_suh0.l0 3000000 K1 m of ln g ((rb m : Nat) : Int) (fun ov19 ov20 ov21 ov22 ov23 => laws_toInt64SS_suh0.a0_0 3000000 K1 (fun i24 gv25 gv26 gv27 gv28 gv29 => laws_toInt64SS_suh0.l1 3000000 K1 m ((rb m : Nat) : Int) (fun ov30 ov31 ov32 ov33 ov34 => laws_toInt64SS_suh0.a1_0 3000000 K1 m ((rb m : Nat) : Int) ov30 ov31 ov32 ov33 ov34) 3000000 i24 gv25 gv26 gv27 gv28 gv29) m ov19 ov20 ov21 ov22 ov23) N i s.q s.o s.l s.c s.g)
      (s0 := ⟨0, fun _ => 0, fun _ => 0, fun _ => 0, fun _ => 0⟩) (n := m) (fun i => tsS false of ln g i) rfl (fun q i hi => ?_) (fun q => ?_) (by omega)
    · simp only [laws_toInt64SS_suh0.l0, laws_toInt64SS_suh0.b0, hw, Int.toNat_natCast]
      have h1 : (i : Int) < (m : Int) := by omega
      have h2 : (0 : Int) ≤ i ∧ (i : Int) < (m : Int) := by omega
      have h3 : (0 : Int) ≤ i ∧ (i : Int) < ((m + rb m : Nat) : Int) := by omega
      simp only [h1, h2, h3, decide_true, if_true, and_self, nxB (show i < 1000000000000 by omega), Nat.zero_add, Nat.mul_one, toS0_eq _ (hl i hi), tsS]
      simp only [Bool.false_and, Bool.false_eq_true, if_false]
    · simp only [laws_toInt64SS_suh0.l0, laws_toInt64SS_suh0.b0, Int.lt_irrefl, decide_false, Bool.false_eq_true, if_false, laws_toInt64SS_suh0.a0_0]
      refine loop_from (l := fun N i (s : TS5) => laws_toInt64SS_suh0.l1 3000000 K1 m ((rb m : Nat) : Int) (fun ov30 ov31 ov32 ov33 ov34 => laws_toInt64SS_suh0.a1_0 3000000 K1 m ((rb m : Nat) : Int) ov30 ov31 ov32 ov33 ov34) N i s.q s.o s.l s.c s.g)
        (s0 := tsS false of ln g m) (n := m + rb m) (fun i => tsE m (tsS false of ln g m) (i - m)) (by rw [Nat.sub_self]; rfl) (fun q i hi1 hi2 => ?_) (fun q => ?_) (by omega) (by omega)
      · simp only [laws_toInt64SS_suh0.l1, laws_toInt64SS_suh0.b1, hw, Int.toNat_natCast]
        have h1 : (i : Int) < ((m + rb m : Nat) : Int) := by omega
        have h3 : (0 : Int) ≤ i ∧ (i : Int) < ((m + rb m : Nat) : Int) := by omega
        simp only [h1, h3, decide_true, if_true, and_self, nxB (show i < 1000000000000 by omega), Nat.zero_add, Nat.mul_one, tsE_next hi1]
      · simp only [laws_toInt64SS_suh0.l1, laws_toInt64SS_suh0.b1, hw, Int.toNat_natCast, Int.lt_irrefl, decide_false, Bool.false_eq_true, if_false, laws_toInt64SS_suh0.a1_0, ha, and_self, if_true, Nat.mul_one]
        have e : m + rb m - m = rb m := by omega
        rw [e]
        rfl
  exact A

/-! what the copy has -/

theorem tsS_facts {bare : Bool} {of ln : Nat → Nat} {g : Nat → Int} : ∀ i, ∀ k, k < i → (tsS bare of ln g i).l k = ln k ∧ (tsS bare of ln g i).c k = (if (bare && decide (ln k = 0)) = true then 0 else cpR (ln k)) ∧
    (0 < ln k → (tsS bare of ln g i).o k + ln k ≤ (tsS bare of ln g i).q) ∧ (∀ j, j < ln k → (tsS bare of ln g i).g ((tsS bare of ln g i).o k + j) = g (of k + j))
  | 0, k, h => by omega
  | i + 1, k, h => by
    simp only [tsS]
    by_cases e : k = i
    · subst e
      by_cases hb : (bare && decide (ln k = 0)) = true
      · have h0 : ln k = 0 := by simp only [Bool.and_eq_true, decide_eq_true_eq] at hb; exact hb.2
        rw [if_pos hb, if_pos hb]
        simp only [upd, if_true]
        exact ⟨h0.symm, trivial, fun h => by omega, fun j hj => by omega⟩
      · have hle := le_cpR (n := ln k)
        rw [if_neg hb, if_neg hb]
        simp only [upd, if_true]
        refine ⟨trivial, trivial, fun _ => by omega, fun j hj => ?_⟩
        have h1 : ¬ (tsS bare of ln g k).q + j < (tsS bare of ln g k).q := by omega
        have h2 : (tsS bare of ln g k).q + j - (tsS bare of ln g k).q = j := by omega
        simp only [joinN, h1, if_false, h2, fillR, hj, if_true]
    · obtain ⟨i1, i2, i3, i4⟩ := tsS_facts (bare := bare) (of := of) (ln := ln) (g := g) i k (by omega)
      by_cases hb : (bare && decide (ln i = 0)) = true
      · rw [if_pos hb]
        simp only [upd, e, if_false]
        exact ⟨i1, i2, i3, i4⟩
      · rw [if_neg hb]
        simp only [upd, e, if_false]
        refine ⟨i1, i2, fun h0 => by have := i3 h0; omega, fun j hj => ?_⟩
        have h0 := i3 (by omega)
        have h1 : (tsS bare of ln g i).o k + j < (tsS bare of ln g i).q := by omega
        simp only [joinN, h1, if_true]
        exact i4 j hj

theorem tsE_facts {m : Nat} {s : TS5} : ∀ t, (∀ k, k < m → (tsE m s t).o k = s.o k ∧ (tsE m s t).l k = s.l k ∧ (tsE m s t).c k = s.c k) ∧ s.q ≤ (tsE m s t).q ∧ (∀ z, z < s.q → (tsE m s t).g z = s.g z) ∧ (∀ k, m ≤ k → k < m + t → (tsE m s t).l k = 1 ∧ (tsE m s t).c k = 1)
  | 0 => ⟨fun k _ => ⟨rfl, rfl, rfl⟩, Nat.le_refl _, fun _ _ => rfl, fun k h1 h2 => by omega⟩
  | t + 1 => by
    obtain ⟨i1, i2, i3, i4⟩ := tsE_facts (m := m) (s := s) t
    refine ⟨fun k hk => ?_, ?_, fun z hz => ?_, fun k h1 h2 => ?_⟩
    · have e : ¬ k = m + t := by omega
      simp only [tsE, upd, e, if_false]
      exact i1 k hk
    · simp only [tsE]; omega
    · have e : z < (tsE m s t).q := by omega
      simp only [tsE, joinN, e, if_true]
      exact i3 z hz
    · simp only [tsE, upd]
      by_cases e : k = m + t
      · simp only [e, if_true]; exact ⟨trivial, trivial⟩
      · simp only [e, if_false]; exact i4 k h1 (by omega)

variable {bare : Bool} {m : Nat} {of ln : Nat → Nat} {g : Nat → Int}

theorem ts_l {i : Nat} (h : i < m) : (ts bare m of ln g).l i = ln i := by
  unfold ts
  rw [((tsE_facts (m := m) (s := tsS bare of ln g m) (rb m)).1 i h).2.1]
  exact (tsS_facts m i h).1
theorem ts_c {i : Nat} (h : i < m) : (ts bare m of ln g).c i = if (bare && decide (ln i = 0)) = true then 0 else cpR (ln i) := by
  unfold ts
  rw [((tsE_facts (m := m) (s := tsS bare of ln g m) (rb m)).1 i h).2.2]
  exact (tsS_facts m i h).2.1
theorem ts_g {i j : Nat} (h : i < m) (hj : j < ln i) : (ts bare m of ln g).g ((ts bare m of ln g).o i + j) = g (of i + j) := by
  unfold ts
  have E := tsE_facts (m := m) (s := tsS bare of ln g m) (rb m)
  have S := tsS_facts (bare := bare) (of := of) (ln := ln) (g := g) m i h
  rw [(E.1 i h).1, E.2.2.1 _ (by have := S.2.2.1 (by omega); omega)]
  exact S.2.2.2 j hj
theorem ts_sp {i : Nat} (h : m ≤ i) (h' : i < m + rb m) : (ts bare m of ln g).l i = 1 ∧ (ts bare m of ln g).c i = 1 := (tsE_facts (m := m) (s := tsS bare of ln g m) (rb m)).2.2.2 i h h'

/-! sizes -/

theorem sz_or (K : Int → Option ρ) {a b c : Nat} (hm : m ≤ 9223372036854775807) (hl : ∀ i, ln i ≤ 9223372036854775807) :
    laws_szInt64SS_suh 3000000 K m 1000000 a b of ln c g = K (-1) ∨ (m ≤ 1000000 ∧ (∀ i, i < m → ln i ≤ 1000000) ∧ ∃ r : Int, 0 ≤ r ∧ laws_szInt64SS_suh 3000000 K m 1000000 a b of ln c g = K r) := by
  unfold laws_szInt64SS_suh laws_szInt64SS_suh.s
  rw [wrap64_id (show -9223372036854775808 ≤ (1000000 : Int) - m by omega) (by omega)]
  by_cases h : (1000000 : Int) - m < 0
  · left; simp [h]
  · have hm' : m ≤ 1000000 := by omega
    simp only [h, decide_false, Bool.false_eq_true, if_false]
    have main : ∀ (k i q : Nat) (left : Int), i + k = m → k < q → 0 ≤ left → left ≤ 1000000 →
        laws_szInt64SS_suh.l0 3000000 K m of ln g (fun ov11 => laws_szInt64SS_suh.a0_0 3000000 K ov11) q left (i : Int) = K (-1) ∨
        ((∀ j, i ≤ j → j < m → ln j ≤ 1000000) ∧ ∃ r : Int, 0 ≤ r ∧ laws_szInt64SS_suh.l0 3000000 K m of ln g (fun ov11 => laws_szInt64SS_suh.a0_0 3000000 K ov11) q left (i : Int) = K r) := by
      intro k
      induction k with
      | zero =>
        intro i q left e hq h0 h1
        obtain ⟨q, rfl⟩ : ∃ k, q = k + 1 := ⟨q - 1, by omega⟩
        right
        have e : i = m := by omega
        subst e
        refine ⟨fun j h1 h2 => by omega, left, h0, ?_⟩
        simp only [laws_szInt64SS_suh.l0, laws_szInt64SS_suh.b0, Int.lt_irrefl, decide_false, Bool.false_eq_true, if_false, laws_szInt64SS_suh.a0_0]
      | succ k ih =>
        intro i q left e hq h0 h1
        obtain ⟨q, rfl⟩ : ∃ k, q = k + 1 := ⟨q - 1, by omega⟩
        have e1 : (i : Int) < (m : Int) := by omega
        have e2 : (0 : Int) ≤ i ∧ (i : Int) < (m : Int) := by omega
        have hli := hl i
        simp only [laws_szInt64SS_suh.l0, laws_szInt64SS_suh.b0, laws_szInt64S_su, e1, e2, decide_true, if_true, and_self, Int.toNat_natCast, Nat.zero_add, Nat.mul_one, nxB (show i < 1000000000000 by omega)]
        rw [wrap64_id (show -9223372036854775808 ≤ left - (ln i : Int) by omega) (by omega)]
        by_cases hlt : left - (ln i : Int) < 0
        · left
          simp [hlt]
        · simp only [hlt, decide_false, Bool.false_eq_true, if_false]
          rcases ih (i + 1) q (left - (ln i : Int)) (by omega) (by omega) (by omega) (by omega) with hh | ⟨hh, r, hr, hk⟩
          · left; exact hh
          · right
            refine ⟨fun j h3 h4 => ?_, r, hr, hk⟩
            by_cases ej : j = i
            · subst ej; omega
            · exact hh j (by omega) h4
    rcases main m 0 3000000 ((1000000 : Int) - m) (by omega) (by omega) (by omega) (by omega) with hh | ⟨hh, r, hr, hk⟩
    · left; simpa using hh
    · right; exact ⟨hm', fun i hi => hh i (by omega) hi, r, hr, by simpa using hk⟩

end
end Go.Proofs.YtiifnnokpjbapaaRR.H
