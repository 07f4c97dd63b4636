/- Coalgebras: coassociativity and counits, told alike by the reference and the program. -/
import Derived.Test.YthecjjnieojjoaaHV4d
namespace Go.Proofs.Ythecjjnieojjoaa.H
set_option linter.unusedVariables false
set_option linter.unusedSimpArgs false
open Go Go.RowKit Go.Proofs.Ythecjjnieojjoaa.Hy
set_option linter.unusedVariables false
set_option linter.unusedSimpArgs false
set_option maxRecDepth 100000

variable {ρ : Type}

theorem toCoalgebra_eq (K : (Nat → Int) → (Nat → Int) → Option ρ) (a0 a1 : Nat → Int) : laws_toCoalgebra 6000 K a0 a1 = K (keepN 2 a0) (keepN 520 a1) := by
  simp only [laws_toCoalgebra, toVector_eq, toTable_eq]
  rw [keepN_two, keepN_520]

theorem spec_shape2 (K : Bool → Option ρ) (a0 a1 : Nat → Int) : spec_l02Shape 6000 K a0 a1 = K (shB a0 a1) := by
  simp only [spec_l02Shape, spec_sizes, spec_vector, spec_table, shB]
  cases sizB (a0 0) (a0 1)
  · simp
  · cases vecB (a0 0) (a0 1) (fun z => a1 (0 + z)) <;> simp

theorem impl_shape2 (K : Bool → Option ρ) (a0 a1 : Nat → Int) : impl_Coalgebra_isShaped 6000 K a0 a1 = K (shB a0 a1) := by
  simp only [impl_Coalgebra_isShaped, impl_isVector, shB]
  by_cases hs : sizB (a0 0) (a0 1) = true
  · simp only [hs, Bool.true_and, impl_table _ _ _ _ hs]
    cases vecB (a0 0) (a0 1) (fun z => a1 (0 + z)) <;> simp
  · simp [hs]

theorem mac {s x y : Int} (hs : 0 ≤ s ∧ s ≤ 1000000) (hx : 0 ≤ x ∧ x ≤ 255) (hy : 0 ≤ y ∧ y ≤ 255) : IntKind.i64.wrap (s + IntKind.i64.wrap (IntKind.i64.wrap x * IntKind.i64.wrap y)) = s + x * y := by
  have h1 := Int.mul_nonneg hx.1 hy.1
  have h2 : x * y ≤ 255 * y := Int.mul_le_mul_of_nonneg_right hx.2 hy.1
  rw [wrap64_id (x := x) (by omega) (by omega), wrap64_id (x := y) (by omega) (by omega), wrap64_id (x := x * y) (by omega) (by omega), wrap64_id (by omega) (by omega)]

theorem sum_small {f g : Nat → Int} {n : Nat} (hn : n ≤ 8) (hf : ∀ a, a < n → 0 ≤ f a ∧ f a ≤ 255) (hg : ∀ a, a < n → 0 ≤ g a ∧ g a ≤ 255) : 0 ≤ sumN (fun a => f a * g a) n ∧ sumN (fun a => f a * g a) n ≤ 1000000 := by
  have := sumN_bound (f := fun a => f a * g a) (n := n) (b := 65025) fun j hj => by
    have h1 := hf j hj
    have h2 := hg j hj
    have h3 := Int.mul_nonneg h1.1 h2.1
    have h4 : f j * g j ≤ 255 * g j := Int.mul_le_mul_of_nonneg_right h1.2 h2.1
    show 0 ≤ f j * g j ∧ f j * g j ≤ 65025
    omega
  have h5 : (n : Int) * 65025 ≤ 520200 := by omega
  omega

section
variable {c0 c1 : Nat → Int} {n : Nat}

theorem Shp.ent (h : Shp c0 c1 n) {i j k : Nat} (hi : i < 8) (hj : j < 8) (hk : k < 8) : 0 ≤ c1 (8 + i * 64 + j * 8 + k) ∧ c1 (8 + i * 64 + j * 8 + k) ≤ 255 := by
  have h1 := h.mul' hi hj k hk
  have h2 := h.p255
  simp only at h1
  omega

theorem Shp.un (h : Shp c0 c1 n) {i : Nat} (hi : i < 8) : 0 ≤ c1 (0 + i) ∧ c1 (0 + i) ≤ 255 := by
  have h1 := h.unit i hi
  have h2 := h.p255
  simp only at h1
  omega

/-! coassociativity -/

def s1 (c1 : Nat → Int) (i j k l m : Nat) : Int := sumN (fun a => c1 (8 + i * 64 + a * 8 + l) * c1 (8 + a * 64 + j * 8 + k)) m
def s2 (c1 : Nat → Int) (i j k l m : Nat) : Int := sumN (fun a => c1 (8 + i * 64 + j * 8 + a) * c1 (8 + a * 64 + k * 8 + l)) m

theorem s1_small (h : Shp c0 c1 n) {i j k l m : Nat} (hi : i < 8) (hj : j < 8) (hk : k < 8) (hl : l < 8) (hm : m ≤ 8) : 0 ≤ s1 c1 i j k l m ∧ s1 c1 i j k l m ≤ 1000000 :=
  sum_small hm (fun a ha => h.ent hi (by omega) hl) (fun a ha => h.ent (by omega) hj hk)
theorem s2_small (h : Shp c0 c1 n) {i j k l m : Nat} (hi : i < 8) (hj : j < 8) (hk : k < 8) (hl : l < 8) (hm : m ≤ 8) : 0 ≤ s2 c1 i j k l m ∧ s2 c1 i j k l m ≤ 1000000 :=
  sum_small hm (fun a ha => h.ent hi hj (by omega)) (fun a ha => h.ent (by omega) hk hl)

theorem spec_sums (h : Shp c0 c1 n) (K : Int → Int → Option ρ) {i j k l : Nat} (hi : i < n) (hj : j < n) (hk : k < n) (hl : l < n) :
    spec_l02Sums 6000 K c0 c1 (i : Int) (j : Int) (k : Int) (l : Int) = K (s1 c1 i j k l n % c0 0) (s2 c1 i j k l n % c0 0) := by
  have hn := h.le
  rw [spec_l02Sums, spec_l02Sums.s]
  refine loop_tta (n := n) (s1 c1 i j k l) (s2 c1 i j k l) rfl rfl (fun m a ha => ?_) (fun m => ?_) (by omega)
  · simp only [spec_l02Sums.l0, spec_l02Sums.b0]
    have h1 : (a : Int) < n := by omega
    have ha2 : (0 : Int) ≤ a ∧ (a : Int) < 8 := by omega
    have hi2 : (0 : Int) ≤ i ∧ (i : Int) < 8 := by omega
    have hj2 : (0 : Int) ≤ j ∧ (j : Int) < 8 := by omega
    have hk2 : (0 : Int) ≤ k ∧ (k : Int) < 8 := by omega
    have hl2 : (0 : Int) ≤ l ∧ (l : Int) < 8 := by omega
    simp only [h.size, h1, ha2, hi2, hj2, hk2, hl2, decide_true, if_true, and_self, Int.toNat_natCast, Nat.mul_one, nx (show a < 100000 by omega)]
    rw [mac (s1_small h (by omega) (by omega) (by omega) (by omega) (by omega)) (h.ent (by omega) (by omega) (by omega)) (h.ent (by omega) (by omega) (by omega)),
      mac (s2_small h (by omega) (by omega) (by omega) (by omega) (by omega)) (h.ent (by omega) (by omega) (by omega)) (h.ent (by omega) (by omega) (by omega))]
    rfl
  · have e1 := s1_small h (i := i) (j := j) (k := k) (l := l) (m := n) (by omega) (by omega) (by omega) (by omega) hn
    have e2 := s2_small h (i := i) (j := j) (k := k) (l := l) (m := n) (by omega) (by omega) (by omega) (by omega) hn
    simp only [spec_l02Sums.l0, spec_l02Sums.b0, h.size, Int.lt_irrefl, decide_false, Bool.false_eq_true, if_false, spec_l02Sums.a0_0]
    rw [spec_mod _ h.p0 h.p255 (by omega) (by omega), spec_mod _ h.p0 h.p255 (by omega) (by omega)]

theorem fld0 {a : Nat → Int} : upd (upd (fun _ => 0) 0 (a 0)) 1 (a 1) 0 = a 0 := by simp [upd]
theorem fld1 {a : Nat → Int} : upd (upd (fun _ => 0) 0 (a 0)) 1 (a 1) 1 = a 1 := by simp [upd]

theorem impl_isFault (h : Shp c0 c1 n) (K : Bool → Option ρ) {i j k l : Nat} (hi : i < n) (hj : j < n) (hk : k < n) (hl : l < n) :
    impl_Coalgebra_isFault 6000 K (i : Int) (j : Int) (k : Int) (l : Int) c0 c1 = K (s1 c1 i j k l n % c0 0 != s2 c1 i j k l n % c0 0) := by
  have hn := h.le
  rw [impl_Coalgebra_isFault, impl_Coalgebra_isFault.s, impl_Coalgebra_field]
  have f0 := fld0 (a := c0)
  have f1 := (fld1 (a := c0)).trans h.size
  generalize upd (upd (fun _ => 0) 0 (c0 0)) 1 (c0 1) = r at f0 f1
  refine loop_tta (n := n) (s1 c1 i j k l) (s2 c1 i j k l) rfl rfl (fun m a ha => ?_) (fun m => ?_) (by omega)
  · simp only [impl_Coalgebra_isFault.l0, impl_Coalgebra_isFault.b0]
    have h1 : (a : Int) < n := by omega
    have ha2 : (0 : Int) ≤ a ∧ (a : Int) < 8 := by omega
    have hi2 : (0 : Int) ≤ i ∧ (i : Int) < 8 := by omega
    have hj2 : (0 : Int) ≤ j ∧ (j : Int) < 8 := by omega
    have hk2 : (0 : Int) ≤ k ∧ (k : Int) < 8 := by omega
    have hl2 : (0 : Int) ≤ l ∧ (l : Int) < 8 := by omega
    simp only [f1, h1, ha2, hi2, hj2, hk2, hl2, decide_true, if_true, and_self, Int.toNat_natCast, Nat.mul_one, nx (show a < 100000 by omega)]
    rw [mac (s1_small h (by omega) (by omega) (by omega) (by omega) (by omega)) (h.ent (by omega) (by omega) (by omega)) (h.ent (by omega) (by omega) (by omega)),
      mac (s2_small h (by omega) (by omega) (by omega) (by omega) (by omega)) (h.ent (by omega) (by omega) (by omega)) (h.ent (by omega) (by omega) (by omega))]
    rfl
  · have e1 := s1_small h (i := i) (j := j) (k := k) (l := l) (m := n) (by omega) (by omega) (by omega) (by omega) hn
    have e2 := s2_small h (i := i) (j := j) (k := k) (l := l) (m := n) (by omega) (by omega) (by omega) (by omega) hn
    have h0 : ¬ c0 0 = 0 := by have := h.p0; omega
    simp only [impl_Coalgebra_isFault.l0, impl_Coalgebra_isFault.b0, f1, f0, h0, Int.lt_irrefl, decide_false, Bool.false_eq_true, if_false, impl_Coalgebra_isFault.a0_0]
    rw [Int.tmod_eq_emod_of_nonneg e1.1, Int.tmod_eq_emod_of_nonneg e2.1]

/-- the places that a number stands for -/
def quad (n m : Nat) : Nat → Int := upd (upd (upd (upd (fun _ => 0) 0 ((m / (n * n * n) : Nat) : Int)) 1 ((m / (n * n) % n : Nat) : Int)) 2 ((m / n % n : Nat) : Int)) 3 ((m % n : Nat) : Int)

def bad4 (c0 c1 : Nat → Int) (n m : Nat) : Option Nat :=
  if s1 c1 (m / (n * n * n)) (m / (n * n) % n) (m / n % n) (m % n) n % c0 0 = s2 c1 (m / (n * n * n)) (m / (n * n) % n) (m / n % n) (m % n) n % c0 0 then none else some m

def coFault (c0 c1 : Nat → Int) (n : Nat) : Option Nat := firstN (bad4 c0 c1 n) 0 (n * n * n * n)

theorem pows (hn : n ≤ 8) : n * n ≤ 64 ∧ n * n * n ≤ 512 ∧ n * n * n * n ≤ 4096 := by
  have h2 : n * n ≤ 8 * 8 := Nat.mul_le_mul hn hn
  have h3 : n * n * n ≤ 8 * 8 * 8 := Nat.mul_le_mul h2 hn
  have h4 : n * n * n * n ≤ 8 * 8 * 8 * 8 := Nat.mul_le_mul h3 hn
  exact ⟨h2, h3, h4⟩

theorem wrap_nat {m : Nat} (h : m ≤ 100000) : IntKind.i64.wrap (m : Int) = (m : Int) := wrap64_id (by omega) (by omega)

theorem wn2 (hn : n ≤ 8) : IntKind.i64.wrap ((n : Int) * n) = ((n * n : Nat) : Int) := by
  have := pows hn
  rw [← Int.natCast_mul, wrap_nat (by omega)]
theorem wn3 (hn : n ≤ 8) : IntKind.i64.wrap (((n * n : Nat) : Int) * n) = ((n * n * n : Nat) : Int) := by
  have := pows hn
  rw [← Int.natCast_mul, wrap_nat (by omega)]
theorem wn4 (hn : n ≤ 8) : IntKind.i64.wrap (((n * n * n : Nat) : Int) * n) = ((n * n * n * n : Nat) : Int) := by
  have := pows hn
  rw [← Int.natCast_mul, wrap_nat (by omega)]

theorem wdiv {m k : Nat} (hm : m ≤ 100000) : IntKind.i64.wrap (Int.tdiv (m : Int) (k : Int)) = ((m / k : Nat) : Int) := by
  rw [← Int.ofNat_tdiv, wrap_nat (Nat.le_trans (Nat.div_le_self _ _) hm)]
theorem wmod {m k : Nat} : Int.tmod (m : Int) (k : Int) = ((m % k : Nat) : Int) := (Int.ofNat_tmod _ _).symm

theorem spec_coFault (h : Shp c0 c1 n) (K0 : Nat → Nat → Bool → (Nat → Int) → Option ρ) (K1 : Bool → Option ρ) :
    spec_l02Fault 6000 K0 K1 c0 c1 = optK (coFault c0 c1 n) (fun m => K0 4 4 true (quad n m)) (K1 false) := by
  have hn := h.le
  have hpos := h.pos
  obtain ⟨p2, p3, p4⟩ := pows hn
  have q2 : 0 < n * n := Nat.mul_pos hpos hpos
  have q3 : 0 < n * n * n := Nat.mul_pos q2 hpos
  have z1 : ¬ (n : Int) = 0 := by omega
  have z2 : ¬ ((n * n : Nat) : Int) = 0 := fun e => by have := Int.ofNat.inj e; omega
  have z3 : ¬ ((n * n * n : Nat) : Int) = 0 := fun e => by have := Int.ofNat.inj e; omega
  rw [spec_l02Fault, spec_l02Fault.s]
  refine find_at (n := n * n * n * n) (bad4 c0 c1 n) (fun m => K0 4 4 true (quad n m)) (fun f m hm => ?_) (fun f => ?_) (by omega)
  · simp only [spec_l02Fault.l0, spec_l02Fault.b0]
    have h1 : (m : Int) < ((n * n * n * n : Nat) : Int) := Int.ofNat_lt.2 hm
    have hi : m / (n * n * n) < n := Nat.div_lt_of_lt_mul hm
    have hj : m / (n * n) % n < n := Nat.mod_lt _ hpos
    have hk : m / n % n < n := Nat.mod_lt _ hpos
    have hl : m % n < n := Nat.mod_lt _ hpos
    have hm' : m ≤ 100000 := by omega
    simp only [h.size, wn2 hn, wn3 hn, wn4 hn, h1, z1, z2, z3, decide_true, if_true, if_false, wdiv hm', wmod, nx (show m < 100000 by omega)]
    rw [spec_sums h _ hi hj hk hl]
    unfold bad4
    by_cases hb : s1 c1 (m / (n * n * n)) (m / (n * n) % n) (m / n % n) (m % n) n % c0 0 = s2 c1 (m / (n * n * n)) (m / (n * n) % n) (m / n % n) (m % n) n % c0 0
    · rw [hb]
      simp only [bne_self_eq_false, Bool.false_eq_true, if_false, if_true, optK]
    · have hb' : (s1 c1 (m / (n * n * n)) (m / (n * n) % n) (m / n % n) (m % n) n % c0 0 != s2 c1 (m / (n * n * n)) (m / (n * n) % n) (m / n % n) (m % n) n % c0 0) = true := by simpa using hb
      simp only [hb', hb, if_true, if_false, optK]
      rfl
  · simp only [spec_l02Fault.l0, spec_l02Fault.b0, h.size, wn2 hn, wn3 hn, wn4 hn, Int.lt_irrefl, decide_false, Bool.false_eq_true, if_false, spec_l02Fault.a0_0]

theorem impl_coFault (h : Shp c0 c1 n) (K0 : Nat → Nat → (Nat → Int) → Option ρ) (K1 : Option ρ) :
    impl_Coalgebra_fault 6000 K0 K1 c0 c1 = optK (coFault c0 c1 n) (fun m => K0 4 4 (quad n m)) K1 := by
  have hn := h.le
  have hpos := h.pos
  obtain ⟨p2, p3, p4⟩ := pows hn
  have q2 : 0 < n * n := Nat.mul_pos hpos hpos
  have q3 : 0 < n * n * n := Nat.mul_pos q2 hpos
  have z1 : ¬ (n : Int) = 0 := by omega
  have z2 : ¬ ((n * n : Nat) : Int) = 0 := fun e => by have := Int.ofNat.inj e; omega
  have z3 : ¬ ((n * n * n : Nat) : Int) = 0 := fun e => by have := Int.ofNat.inj e; omega
  rw [impl_Coalgebra_fault, impl_Coalgebra_fault.s]
  refine find_at (n := n * n * n * n) (bad4 c0 c1 n) (fun m => K0 4 4 (quad n m)) (fun f m hm => ?_) (fun f => ?_) (by omega)
  · simp only [impl_Coalgebra_fault.l0, impl_Coalgebra_fault.b0]
    have h1 : (m : Int) < ((n * n * n * n : Nat) : Int) := Int.ofNat_lt.2 hm
    have hi : m / (n * n * n) < n := Nat.div_lt_of_lt_mul hm
    have hj : m / (n * n) % n < n := Nat.mod_lt _ hpos
    have hk : m / n % n < n := Nat.mod_lt _ hpos
    have hl : m % n < n := Nat.mod_lt _ hpos
    have hm' : m ≤ 100000 := by omega
    simp only [h.size, wn2 hn, wn3 hn, wn4 hn, h1, z1, z2, z3, decide_true, if_true, if_false, wdiv hm', wmod, nx (show m < 100000 by omega)]
    rw [impl_isFault h _ hi hj hk hl]
    unfold bad4
    by_cases hb : s1 c1 (m / (n * n * n)) (m / (n * n) % n) (m / n % n) (m % n) n % c0 0 = s2 c1 (m / (n * n * n)) (m / (n * n) % n) (m / n % n) (m % n) n % c0 0
    · rw [hb]
      simp only [bne_self_eq_false, Bool.false_eq_true, if_false, if_true, optK]
    · have hb' : (s1 c1 (m / (n * n * n)) (m / (n * n) % n) (m / n % n) (m % n) n % c0 0 != s2 c1 (m / (n * n * n)) (m / (n * n) % n) (m / n % n) (m % n) n % c0 0) = true := by simpa using hb
      simp only [hb', hb, if_true, if_false, optK]
      rfl
  · simp only [impl_Coalgebra_fault.l0, impl_Coalgebra_fault.b0, h.size, wn2 hn, wn3 hn, wn4 hn, Int.lt_irrefl, decide_false, Bool.false_eq_true, if_false, impl_Coalgebra_fault.a0_0]

/-! counits -/

/-- the sum of Counit[j] Com[i][j] over the first j -/
def cuL (c0 c1 : Nat → Int) (i j : Nat) : Nat → Int := accV (c0 0) j (fun j => c1 (0 + j)) (fun j z => c1 (8 + i * 64 + j * 8 + z))

/-- the sums of Counit[k] Com[i][j][k], for the first j -/
def cuR (c0 c1 : Nat → Int) (n i j : Nat) : Nat → Int := fun x => if x < j then sumN (fun k => c1 (0 + k) * c1 (8 + i * 64 + x * 8 + k)) n % c0 0 else 0

theorem cuR_next {i j : Nat} : upd (cuR c0 c1 n i j) j (sumN (fun k => c1 (0 + k) * c1 (8 + i * 64 + j * 8 + k)) n % c0 0) = cuR c0 c1 n i (j + 1) := by
  funext x
  unfold upd cuR
  by_cases hx : x = j
  · subst hx; rw [if_pos rfl, if_pos (by omega)]
  · rw [if_neg hx]
    by_cases h2 : x < j
    · rw [if_pos h2, if_pos (by omega)]
    · rw [if_neg h2, if_neg (by omega)]

def couB (c0 c1 : Nat → Int) (n : Nat) : Bool := allN (fun i => eqN 8 (cuL c0 c1 i n) (eb i) && eqN 8 (cuR c0 c1 n i n) (eb i)) 0 n

theorem cuL_byte (h : Shp c0 c1 n) {i j : Nat} : ∀ z, z < 8 → 0 ≤ cuL c0 c1 i j z ∧ cuL c0 c1 i j z ≤ 255 := inP_byte h.p255 (inP_acc h.p0)

theorem spec_counits (h : Shp c0 c1 n) (K : Bool → Option ρ) : spec_l02Counits 6000 K c0 c1 = K (couB c0 c1 n) := by
  have hn := h.le
  rw [spec_l02Counits, spec_l02Counits.s]
  refine (all_at (n := n) (no := K false) (out := K true) (fun i => eqN 8 (cuL c0 c1 i n) (eb i) && eqN 8 (cuR c0 c1 n i n) (eb i)) (fun m i hi => ?_) (fun m => ?_) (by omega)).trans ?_
  · simp only [spec_l02Counits.l0, spec_l02Counits.b0]
    have h1 : (i : Int) < n := by omega
    have hi2 : (0 : Int) ≤ i ∧ (i : Int) < 8 := by omega
    simp only [h.size, h1, decide_true, if_true]
    refine loop_att (n := n) (cuL c0 c1 i) (cuR c0 c1 n i) accV_zero.symm (by funext x; simp [cuR]) (fun m' j hj => ?_) (fun m' => ?_) (by omega)
    · simp only [spec_l02Counits.l1, spec_l02Counits.b1]
      have g1 : (j : Int) < n := by omega
      have hj2 : (0 : Int) ≤ j ∧ (j : Int) < 8 := by omega
      have u := h.un (i := j) (by omega)
      simp only [h.size, g1, hi2, hj2, decide_true, if_true, and_self, Int.toNat_natCast, Nat.mul_one]
      rw [wrap64_id (x := c1 (0 + j)) (by omega) (by omega), spec_add _ h.p0 h.p255 (cuL_byte h) (fun z hz => h.ent (by omega) (by omega) hz) (by omega) (by omega)]
      have eL : addV (c0 0) (cuL c0 c1 i j) (fun z => c1 (8 + i * 64 + j * 8 + z)) (c1 (0 + j)) = cuL c0 c1 i (j + 1) := accV_succ.symm
      rw [eL]
      refine loop_ta (n := n) (fun k => sumN (fun k => c1 (0 + k) * c1 (8 + i * 64 + j * 8 + k)) k) rfl (fun m'' k hk => ?_) (fun m'' => ?_) (by omega)
      · simp only [spec_l02Counits.l2, spec_l02Counits.b2]
        have f1 : (k : Int) < n := by omega
        have hk2 : (0 : Int) ≤ k ∧ (k : Int) < 8 := by omega
        simp only [h.size, f1, hi2, hj2, hk2, decide_true, if_true, and_self, Int.toNat_natCast, Nat.mul_one, nx (show k < 100000 by omega)]
        rw [mac (sum_small (by omega) (fun a ha => h.un (by omega)) (fun a ha => h.ent (by omega) (by omega) (by omega))) (h.un (by omega)) (h.ent (by omega) (by omega) (by omega))]
        rfl
      · have sm := sum_small (f := fun k => c1 (0 + k)) (g := fun k => c1 (8 + i * 64 + j * 8 + k)) hn (fun a ha => h.un (by omega)) (fun a ha => h.ent (by omega) (by omega) (by omega))
        simp only [spec_l02Counits.l2, spec_l02Counits.b2, h.size, Int.lt_irrefl, decide_false, Bool.false_eq_true, if_false, spec_l02Counits.a2_0]
        rw [spec_mod _ h.p0 h.p255 (by omega) (by omega)]
        simp only [hj2, and_self, if_true, Int.toNat_natCast, Nat.mul_one, nx (show j < 100000 by omega), cuR_next]
    · simp only [spec_l02Counits.l1, spec_l02Counits.b1, h.size, Int.lt_irrefl, decide_false, Bool.false_eq_true, if_false, spec_l02Counits.a1_0, spec_basis_eq _ (show i < 8 by omega), nx (show i < 100000 by omega)]
      cases eqN 8 (cuL c0 c1 i n) (upd (fun _ => 0) i 1) <;> cases eqN 8 (cuR c0 c1 n i n) (upd (fun _ => 0) i 1) <;> simp
  · simp only [spec_l02Counits.l0, spec_l02Counits.b0, h.size, Int.lt_irrefl, decide_false, Bool.false_eq_true, if_false, spec_l02Counits.a0_0]
  · exact K_if K _

theorem impl_dot (K : Int → Option ρ) {f v w : Nat → Int} (hp : 0 < f 0) (hv : ∀ i, i < 8 → 0 ≤ v i ∧ v i ≤ 255) (hw : ∀ i, i < 8 → 0 ≤ w i ∧ w i ≤ 255) : impl_field_dot 6000 K f v w = K (sumN (fun i => v i * w i) 8 % f 0) := by
  rw [impl_field_dot, impl_field_dot.s]
  refine loop_ta (n := 8) (fun k => sumN (fun i => v i * w i) k) rfl (fun m k hk => ?_) (fun m => ?_) (by omega)
  · simp only [impl_field_dot.l0, impl_field_dot.b0]
    have f1 : (k : Int) < 8 := by omega
    have hk2 : (0 : Int) ≤ k ∧ (k : Int) < 8 := by omega
    simp only [f1, hk2, decide_true, if_true, and_self, Int.toNat_natCast, Nat.mul_one, nx (show k < 100000 by omega)]
    rw [mac (sum_small (by omega) (fun a ha => hv a (by omega)) (fun a ha => hw a (by omega))) (hv k hk) (hw k hk)]
    rfl
  · have sm := sum_small (f := v) (g := w) (n := 8) (by omega) hv hw
    have h0 : ¬ f 0 = 0 := by omega
    simp only [impl_field_dot.l0, impl_field_dot.b0, not8, decide_false, Bool.false_eq_true, if_false, impl_field_dot.a0_0, h0]
    rw [Int.tmod_eq_emod_of_nonneg sm.1]

theorem impl_counits (h : Shp c0 c1 n) (K : Bool → Option ρ) : impl_Coalgebra_isCounit 6000 K c0 c1 = K (couB c0 c1 n) := by
  have hn := h.le
  rw [impl_Coalgebra_isCounit, impl_Coalgebra_isCounit.s, impl_Coalgebra_field]
  have f0 := fld0 (a := c0)
  have f1 := (fld1 (a := c0)).trans h.size
  generalize upd (upd (fun _ => 0) 0 (c0 0)) 1 (c0 1) = r at f0 f1
  refine (all_at (n := n) (no := K false) (out := K true) (fun i => eqN 8 (cuL c0 c1 i n) (eb i) && eqN 8 (cuR c0 c1 n i n) (eb i)) (fun m i hi => ?_) (fun m => ?_) (by omega)).trans ?_
  · simp only [impl_Coalgebra_isCounit.l0, impl_Coalgebra_isCounit.b0]
    have h1 : (i : Int) < n := by omega
    have hi2 : (0 : Int) ≤ i ∧ (i : Int) < 8 := by omega
    simp only [f1, h1, decide_true, if_true]
    refine loop_att (n := n) (cuL c0 c1 i) (cuR c0 c1 n i) accV_zero.symm (by funext x; simp [cuR]) (fun m' j hj => ?_) (fun m' => ?_) (by omega)
    · simp only [impl_Coalgebra_isCounit.l1, impl_Coalgebra_isCounit.b1]
      have g1 : (j : Int) < n := by omega
      have hj2 : (0 : Int) ≤ j ∧ (j : Int) < 8 := by omega
      have u := h.un (i := j) (by omega)
      simp only [f1, g1, hi2, hj2, decide_true, if_true, and_self, Int.toNat_natCast, Nat.mul_one]
      rw [wrap64_id (x := c1 (0 + j)) (by omega) (by omega), impl_plus _ (by rw [f0]; exact h.p0) (by rw [f0]; exact h.p255) (by rw [f0]; exact inP_acc h.p0) (fun z hz => h.ent (by omega) (by omega) hz) (by omega) (by omega)]
      rw [impl_dot _ (by rw [f0]; exact h.p0) (fun z hz => h.un hz) (fun z hz => h.ent (by omega) (by omega) hz)]
      have eL : addV (r 0) (cuL c0 c1 i j) (fun z => c1 (8 + i * 64 + j * 8 + z)) (c1 (0 + j)) = cuL c0 c1 i (j + 1) := by rw [f0]; exact accV_succ.symm
      rw [eL, f0]
      have z0 := h.p0
      have zr := h.p255
      rw [sumN_out (n := n) hn (fun k hk hk8 => by
        have := h.unit0 k hk8 hk
        show c1 (0 + k) * _ = 0
        rw [this, Int.zero_mul])]
      have e1 : 0 ≤ sumN (fun k => c1 (0 + k) * c1 (8 + i * 64 + j * 8 + k)) n % c0 0 := Int.emod_nonneg _ (by omega)
      have e2 : sumN (fun k => c1 (0 + k) * c1 (8 + i * 64 + j * 8 + k)) n % c0 0 < c0 0 := Int.emod_lt_of_pos _ z0
      rw [wrap8_id e1 (by omega)]
      simp only [nx (show j < 100000 by omega), cuR_next]
    · simp only [impl_Coalgebra_isCounit.l1, impl_Coalgebra_isCounit.b1, f1, Int.lt_irrefl, decide_false, Bool.false_eq_true, if_false, impl_Coalgebra_isCounit.a1_0, impl_basis_eq _ (show i < 8 by omega), nx (show i < 100000 by omega)]
      cases eqN 8 (cuL c0 c1 i n) (upd (fun _ => 0) i 1) <;> cases eqN 8 (cuR c0 c1 n i n) (upd (fun _ => 0) i 1) <;> simp
  · simp only [impl_Coalgebra_isCounit.l0, impl_Coalgebra_isCounit.b0, f1, Int.lt_irrefl, decide_false, Bool.false_eq_true, if_false, impl_Coalgebra_isCounit.a0_0]
  · exact K_if K _

/-- is it a coalgebra? -/
def coB (c0 c1 : Nat → Int) : Bool := shB c0 c1 && ((coFault c0 c1 (c0 1).toNat).isNone && couB c0 c1 (c0 1).toNat)

theorem spec_isCo (hb : ∀ i, i < 520 → 0 ≤ c1 i ∧ c1 i ≤ 255) (K : Bool → Option ρ) : spec_l02Is 6000 K c0 c1 = K (coB c0 c1) := by
  simp only [spec_l02Is, spec_shape2]
  by_cases hs : shB c0 c1 = true
  · obtain ⟨n, h⟩ := shp_of hs hb
    have e : (c0 1).toNat = n := by rw [h.size]; rfl
    simp only [hs, Bool.not_true, Bool.false_eq_true, if_false, coB, Bool.true_and, e]
    rw [spec_coFault h]
    cases coFault c0 c1 n with
    | none => simp [optK, spec_counits h]
    | some m => simp [optK]
  · have hs' : shB c0 c1 = false := by simpa using hs
    simp [hs', coB]

theorem impl_isCo (hb : ∀ i, i < 520 → 0 ≤ c1 i ∧ c1 i ≤ 255) (K : Bool → Option ρ) : impl_IsCoalgebra 6000 K c0 c1 = K (coB c0 c1) := by
  simp only [impl_IsCoalgebra, impl_shape2]
  by_cases hs : shB c0 c1 = true
  · obtain ⟨n, h⟩ := shp_of hs hb
    have e : (c0 1).toNat = n := by rw [h.size]; rfl
    simp only [hs, if_true, coB, Bool.true_and, e, impl_counits h]
    cases couB c0 c1 n with
    | true =>
      simp only [if_true, Bool.and_true]
      rw [impl_coFault h]
      cases coFault c0 c1 n <;> rfl
    | false => simp
  · have hs' : shB c0 c1 = false := by simpa using hs
    simp [hs', coB]

theorem coB_shp (h : coB c0 c1 = true) (hb : ∀ i, i < 520 → 0 ≤ c1 i ∧ c1 i ≤ 255) : ∃ n, Shp c0 c1 n := by
  simp only [coB, Bool.and_eq_true] at h
  exact shp_of h.1 hb

end
end Go.Proofs.Ythecjjnieojjoaa.H
