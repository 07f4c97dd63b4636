/- Products of tables of two vectors, told alike by the reference and the program. -/
import Derived.Test.YtacdnmdfoimjcaaHV10e
namespace Go.Proofs.Ytacdnmdfoimjcaa.H
set_option linter.unusedVariables false
set_option linter.unusedSimpArgs false
open Go Go.RowKit Go.Proofs.Ytacdnmdfoimjcaa.Hx
set_option linter.unusedVariables false
set_option linter.unusedSimpArgs false
set_option maxRecDepth 100000

variable {ρ : Type}

/-- a table of two vectors, modulo p -/
def red (p : Int) (R : Nat → Int) : Nat → Int := fun x => if x < 64 then R x % p else 0

theorem red_zero {p : Int} : red p (fun _ => 0) = fun _ => 0 := by funext x; unfold red; split <;> simp

theorem red_congr {p : Int} {R S : Nat → Int} (h : ∀ x, x < 64 → R x = S x) : red p R = red p S := by
  funext x
  unfold red
  split
  · rename_i hx; rw [h x hx]
  · rfl

theorem red_emod {p : Int} {R S : Nat → Int} (h : ∀ x, x < 64 → R x % p = S x % p) : red p R = red p S := by
  funext x
  unfold red
  split
  · rename_i hx; rw [h x hx]
  · rfl

theorem red_row {p : Int} {R w : Nat → Int} {k : Int} {i : Nat} (hi : i < 8) : updN (red p R) (i * 8) 8 (addV p (fun z => red p R (i * 8 + z)) w k) = red p (fun x => R x + if x / 8 = i then k * w (x % 8) else 0) := by
  funext x
  unfold updN
  by_cases h0 : i * 8 ≤ x ∧ x < i * 8 + 8
  · rw [if_pos h0]
    have e1 : x / 8 = i := by omega
    have e2 : x % 8 = x - i * 8 := by omega
    have e3 : i * 8 + (x - i * 8) = x := by omega
    unfold addV red
    rw [if_pos (by omega)]
    simp only [e1, e2, e3, if_true]
    rw [if_pos (by omega), Int.emod_add_emod, if_pos (by omega)]
  · rw [if_neg h0]
    unfold red
    by_cases h1 : x < 64
    · rw [if_pos h1, if_pos h1]
      show R x % p = (R x + if x / 8 = i then k * w (x % 8) else 0) % p
      rw [if_neg (by omega), Int.add_zero]
    · rw [if_neg h1, if_neg h1]

theorem red_in {p : Int} (hp : 0 < p) {R : Nat → Int} {q : Nat} : inP p (fun z => red p R (q * 8 + z)) := by
  intro z hz
  show 0 ≤ red p R (q * 8 + z) ∧ red p R (q * 8 + z) < p
  unfold red
  split
  · exact ⟨Int.emod_nonneg _ (by omega), Int.emod_lt_of_pos _ hp⟩
  · omega

section
variable {h0 h1 : Nat → Int} {n : Nat}

/-- one term of a product of tables -/
def trm (p : Int) (h1 : Nat → Int) (j k l m : Nat) (x y : Int) (q : Nat) : Int := (x * y) % p * h1 (8 + j * 64 + l * 8 + q / 8) * h1 (8 + k * 64 + m * 8 + q % 8)

theorem trm_x {p : Int} {j k l m : Nat} {y : Int} {q : Nat} : trm p h1 j k l m 0 y q = 0 := by simp [trm]
theorem trm_y {p : Int} {j k l m : Nat} {x : Int} {q : Nat} : trm p h1 j k l m x 0 q = 0 := by simp [trm]

theorem tens0 (h : HS h0 h1 n) (K : (Nat → Int) → Option ρ) {f g8 R : Nat → Int} (hf : f 0 = h0 0) {j k l m : Nat} {x y : Int} (hj : j < 8) (hk : k < 8) (hl : l < 8) (hm : m < 8) (hx : 0 ≤ x ∧ x < h0 0) (hy : 0 ≤ y ∧ y < h0 0) :
    impl_Hopf_tensor_c1_c1 5000 K (l : Int) (m : Int) y (fun _ => (j : Int)) f (red (h0 0) R) (fun _ => x) (fun _ => (k : Int)) g8 h1 = K (red (h0 0) (fun q => R q + trm (h0 0) h1 j k l m x y q)) := by
  have hj2 : (0 : Int) ≤ j ∧ (j : Int) < 8 := by omega
  have hk2 : (0 : Int) ≤ k ∧ (k : Int) < 8 := by omega
  have hl2 : (0 : Int) ≤ l ∧ (l : Int) < 8 := by omega
  have hm2 : (0 : Int) ≤ m ∧ (m : Int) < 8 := by omega
  have p0 := h.al.p0
  have p255 := h.al.p255
  rw [impl_Hopf_tensor_c1_c1, impl_Hopf_tensor_c1_c1.s]
  simp only [hj2, hl2, and_self, if_true]
  refine loop_at (n := 8) (fun i => red (h0 0) (fun q => R q + if q / 8 < i then trm (h0 0) h1 j k l m x y q else 0)) (red_congr fun q hq => by rw [if_neg (by omega), Int.add_zero]) (fun f' i hi => ?_) (fun f' => ?_) (by omega)
  · simp only [impl_Hopf_tensor_c1_c1.l0, impl_Hopf_tensor_c1_c1.b0]
    have e1 : (i : Int) < 8 := by omega
    have hi2 : (0 : Int) ≤ i ∧ (i : Int) < 8 := by omega
    have z : ¬ h0 0 = 0 := by omega
    have xy := mul_range p255 hx hy
    have m1 := h.al.ent (i := j) (j := l) (k := i) hj hl hi
    have c0 : 0 ≤ x * y % h0 0 := Int.emod_nonneg _ (by omega)
    have c1 : x * y % h0 0 < h0 0 := Int.emod_lt_of_pos _ p0
    have c2 := Int.mul_nonneg c0 m1.1
    have c3 : x * y % h0 0 * h1 (8 + j * 64 + l * 8 + i) ≤ 255 * h1 (8 + j * 64 + l * 8 + i) := Int.mul_le_mul_of_nonneg_right (by omega) m1.1
    simp only [hf, z, e1, hi2, hk2, hm2, decide_true, if_true, if_false, and_self, Int.toNat_natCast]
    rw [wrap64_id (x := x * y) (by omega) (by omega), Int.tmod_eq_emod_of_nonneg xy.1, wrap64_id (x := h1 (8 + j * 64 + l * 8 + i)) (by omega) (by omega), wrap64_id (x := x * y % h0 0 * h1 (8 + j * 64 + l * 8 + i)) (by omega) (by omega)]
    rw [impl_plus _ (by rw [hf]; exact p0) (by rw [hf]; exact p255) (by rw [hf]; exact red_in p0) (fun z hz => h.al.ent hk hm hz) (by omega) (by omega), hf, red_row hi]
    simp only [nx (show i < 100000 by omega)]
    congr 1
    refine red_congr fun q hq => ?_
    rcases Nat.lt_trichotomy (q / 8) i with h2 | h2 | h2
    · rw [if_pos h2, if_neg (by omega), if_pos (by omega), Int.add_zero]
    · rw [if_neg (by omega), if_pos h2, if_pos (by omega), Int.add_zero]
      show _ + x * y % h0 0 * h1 (8 + j * 64 + l * 8 + i) * h1 (8 + k * 64 + m * 8 + q % 8) = _
      rw [trm, h2]
    · rw [if_neg (by omega), if_neg (by omega), if_neg (by omega), Int.add_zero]
  · simp only [impl_Hopf_tensor_c1_c1.l0, impl_Hopf_tensor_c1_c1.b0, not8, decide_false, Bool.false_eq_true, if_false, impl_Hopf_tensor_c1_c1.a0_0]
    congr 1
    exact red_congr fun q hq => by rw [if_pos (by omega)]

/-- the terms for one number of the first table -/
def trms (p : Int) (h1 : Nat → Int) (b : Nat → Int) (j k : Nat) (x : Int) (q : Nat) : Int := sumN (fun l => sumN (fun m => trm p h1 j k l m x (b (l * 8 + m)) q) 8) 8

theorem trms_x {p : Int} {b : Nat → Int} {j k : Nat} {q : Nat} : trms p h1 b j k 0 q = 0 := by
  unfold trms
  rw [sumN_congr (g := fun _ => 0) fun l _ => by rw [sumN_congr (g := fun _ => 0) fun m _ => trm_x, sumN_zero], sumN_zero]

theorem tens1 (h : HS h0 h1 n) (K : (Nat → Int) → (Nat → Int) → (Nat → Int) → (Nat → Int) → (Nat → Int) → Option ρ) {f g6 b R : Nat → Int} (hf : f 0 = h0 0) {j k : Nat} {x : Int} (hj : j < 8) (hk : k < 8) (hx : 0 ≤ x ∧ x < h0 0) (hb : ∀ l m, l < 8 → m < 8 → 0 ≤ b (l * 8 + m) ∧ b (l * 8 + m) < h0 0) :
    impl_pairs_f_v2 5000 K b (fun _ => (j : Int)) f (red (h0 0) R) (fun _ => x) (fun _ => (k : Int)) g6 h1 = K (fun _ => (j : Int)) f (red (h0 0) (fun q => R q + trms (h0 0) h1 b j k x q)) (fun _ => x) (fun _ => (k : Int)) := by
  have p255 := h.al.p255
  rw [impl_pairs_f_v2, impl_pairs_f_v2.s]
  refine loop_at (n := 8) (fun l => red (h0 0) (fun q => R q + sumN (fun l => sumN (fun m => trm (h0 0) h1 j k l m x (b (l * 8 + m)) q) 8) l)) (red_congr fun q hq => by simp [sumN]) (fun f' l hl => ?_) (fun f' => ?_) (by omega)
  · simp only [impl_pairs_f_v2.l0, impl_pairs_f_v2.b0]
    have e1 : (l : Int) < 8 := by omega
    have hl2 : (0 : Int) ≤ l ∧ (l : Int) < 8 := by omega
    simp only [e1, hl2, decide_true, if_true, and_self]
    refine loop_at (n := 8) (fun m => red (h0 0) (fun q => R q + sumN (fun l => sumN (fun m => trm (h0 0) h1 j k l m x (b (l * 8 + m)) q) 8) l + sumN (fun m => trm (h0 0) h1 j k l m x (b (l * 8 + m)) q) m)) (red_congr fun q hq => by simp [sumN]) (fun f'' m hm => ?_) (fun f'' => ?_) (by omega)
    · simp only [impl_pairs_f_v2.l1, impl_pairs_f_v2.b1]
      have g1 : (m : Int) < 8 := by omega
      have hm2 : (0 : Int) ≤ m ∧ (m : Int) < 8 := by omega
      have hy := hb l m hl hm
      simp only [g1, hm2, decide_true, if_true, and_self, Int.toNat_natCast]
      by_cases h0' : b (l * 8 + m) = 0
      · have hbb : (b (l * 8 + m) != 0) = false := by simp [h0']
        simp only [hbb, Bool.false_eq_true, if_false, nx (show m < 100000 by omega)]
        congr 1
        exact red_congr fun q hq => by simp only [sumN, h0', trm_y, Int.add_zero]
      · have hbb : (b (l * 8 + m) != 0) = true := by simpa using h0'
        simp only [hbb, if_true]
        rw [wrap64_id (x := b (l * 8 + m)) (by omega) (by omega), tens0 h _ hf hj hk hl hm hx hy]
        simp only [nx (show m < 100000 by omega)]
        congr 1
        exact red_congr fun q hq => by simp only [sumN]; rw [Int.add_assoc (R q + _)]
    · simp only [impl_pairs_f_v2.l1, impl_pairs_f_v2.b1, not8, decide_false, Bool.false_eq_true, if_false, impl_pairs_f_v2.a1_0, nx (show l < 100000 by omega)]
      congr 1
      exact red_congr fun q hq => by
        conv => rhs; rw [sumN]
        rw [Int.add_assoc]
  · simp only [impl_pairs_f_v2.l0, impl_pairs_f_v2.b0, not8, decide_false, Bool.false_eq_true, if_false, impl_pairs_f_v2.a0_0]
    rfl

def tensV (p : Int) (h1 a b : Nat → Int) : Nat → Int := red p (fun q => sumN (fun j => sumN (fun k => trms p h1 b j k (a (j * 8 + k)) q) 8) 8)

theorem impl_tensor (h : HS h0 h1 n) (K : (Nat → Int) → Option ρ) {a b : Nat → Int} (ha : ∀ l m, l < 8 → m < 8 → 0 ≤ a (l * 8 + m) ∧ a (l * 8 + m) < h0 0) (hb : ∀ l m, l < 8 → m < 8 → 0 ≤ b (l * 8 + m) ∧ b (l * 8 + m) < h0 0) :
    impl_Hopf_tensor 5000 K h0 h1 a b = K (tensV (h0 0) h1 a b) := by
  have p255 := h.al.p255
  rw [impl_Hopf_tensor, impl_Hopf_field]
  have f0 := fld0 (a := h0)
  generalize upd (upd (fun _ => 0) 0 (h0 0)) 1 (h0 1) = r at f0
  rw [impl_pairs_f, impl_pairs_f.s]
  refine loop_att (n := 8) (fun _ => r) (fun j => red (h0 0) (fun q => sumN (fun j => sumN (fun k => trms (h0 0) h1 b j k (a (j * 8 + k)) q) 8) j)) rfl (red_zero.symm) (fun f' j hj => ?_) (fun f' => ?_) (by omega)
  · simp only [impl_pairs_f.l0, impl_pairs_f.b0]
    have e1 : (j : Int) < 8 := by omega
    have hj2 : (0 : Int) ≤ j ∧ (j : Int) < 8 := by omega
    simp only [e1, hj2, decide_true, if_true, and_self]
    refine loop_att (n := 8) (fun _ => r) (fun k => red (h0 0) (fun q => sumN (fun j => sumN (fun k => trms (h0 0) h1 b j k (a (j * 8 + k)) q) 8) j + sumN (fun k => trms (h0 0) h1 b j k (a (j * 8 + k)) q) k)) rfl (red_congr fun q hq => by simp [sumN]) (fun f'' k hk => ?_) (fun f'' => ?_) (by omega)
    · simp only [impl_pairs_f.l1, impl_pairs_f.b1]
      have g1 : (k : Int) < 8 := by omega
      have hk2 : (0 : Int) ≤ k ∧ (k : Int) < 8 := by omega
      have hx := ha j k hj hk
      simp only [g1, hk2, decide_true, if_true, and_self, Int.toNat_natCast]
      by_cases h0' : a (j * 8 + k) = 0
      · have hbb : (a (j * 8 + k) != 0) = false := by simp [h0']
        simp only [hbb, Bool.false_eq_true, if_false, nx (show k < 100000 by omega)]
        congr 1
        exact red_congr fun q hq => by simp only [sumN, h0', trms_x, Int.add_zero]
      · have hbb : (a (j * 8 + k) != 0) = true := by simpa using h0'
        simp only [hbb, if_true, impl_Hopf_tensor_c1]
        rw [wrap64_id (x := a (j * 8 + k)) (by omega) (by omega), tens1 h _ f0 hj hk hx hb]
        simp only [nx (show k < 100000 by omega)]
        congr 1
        exact red_congr fun q hq => by simp only [sumN]; rw [Int.add_assoc]
    · simp only [impl_pairs_f.l1, impl_pairs_f.b1, not8, decide_false, Bool.false_eq_true, if_false, impl_pairs_f.a1_0, nx (show j < 100000 by omega)]
      rfl
  · simp only [impl_pairs_f.l0, impl_pairs_f.b0, not8, decide_false, Bool.false_eq_true, if_false, impl_pairs_f.a0_0]
    rfl

/-! the reference's product -/

def pairV (h0 h1 : Nat → Int) (n : Nat) (f g : Nat → Int) : Nat → Int := red (h0 0) (fun q => sumN (fun j => sumN (fun l => h1 (8 + j * 64 + l * 8 + q / 8) * tm h0 h1 n (fun z => f (j * 8 + z)) (fun z => g (l * 8 + z)) (q % 8)) n) n)

theorem spec_pairs (h : HS h0 h1 n) (K : (Nat → Int) → Option ρ) {f g : Nat → Int} (hf : ∀ j, j < 8 → inP (h0 0) (fun z => f (j * 8 + z))) (hg : ∀ j, j < 8 → inP (h0 0) (fun z => g (j * 8 + z))) :
    spec_l03Pairs 5000 K h0 h1 f g = K (pairV h0 h1 n f g) := by
  have hn := h.al.le
  have p0 := h.al.p0
  have p255 := h.al.p255
  rw [spec_l03Pairs, spec_l03Pairs.s]
  refine loop_at (n := n) (fun j => red (h0 0) (fun q => sumN (fun j => sumN (fun l => h1 (8 + j * 64 + l * 8 + q / 8) * tm h0 h1 n (fun z => f (j * 8 + z)) (fun z => g (l * 8 + z)) (q % 8)) n) j)) red_zero.symm (fun m j hj => ?_) (fun m => ?_) (by omega)
  · simp only [spec_l03Pairs.l0, spec_l03Pairs.b0]
    have e1 : (j : Int) < n := by omega
    have hj2 : (0 : Int) ≤ j ∧ (j : Int) < 8 := by omega
    simp only [h.al.size, e1, decide_true, if_true]
    refine loop_at (n := n) (fun l => red (h0 0) (fun q => sumN (fun j => sumN (fun l => h1 (8 + j * 64 + l * 8 + q / 8) * tm h0 h1 n (fun z => f (j * 8 + z)) (fun z => g (l * 8 + z)) (q % 8)) n) j + sumN (fun l => h1 (8 + j * 64 + l * 8 + q / 8) * tm h0 h1 n (fun z => f (j * 8 + z)) (fun z => g (l * 8 + z)) (q % 8)) l)) (red_congr fun q hq => by simp [sumN]) (fun m' l hl => ?_) (fun m' => ?_) (by omega)
    · simp only [spec_l03Pairs.l1, spec_l03Pairs.b1]
      have g1 : (l : Int) < n := by omega
      have hl2 : (0 : Int) ≤ l ∧ (l : Int) < 8 := by omega
      simp only [h.al.size, g1, hj2, hl2, decide_true, if_true, and_self, spec_alg, Int.toNat_natCast]
      rw [h.times _ (hf j (by omega)) (hg l (by omega))]
      have ti : inP (h0 0) (tm h0 h1 n (fun z => f (j * 8 + z)) (fun z => g (l * 8 + z))) := inP_acc p0
      generalize htm : tm h0 h1 n (fun z => f (j * 8 + z)) (fun z => g (l * 8 + z)) = t at ti ⊢
      simp only [spec_l01Zero]
      by_cases hz : eqN 8 t (fun _ => 0) = true
      · simp only [hz, if_true, nx (show l < 100000 by omega)]
        congr 1
        have hz' : ∀ z, z < 8 → t z = 0 := by simpa [eqN] using hz
        exact red_congr fun q hq => by
          simp only [sumN]
          rw [htm, hz' (q % 8) (by omega), Int.mul_zero, Int.add_zero]
      · rw [Bool.not_eq_true] at hz
        simp only [hz, Bool.false_eq_true, if_false]
        refine loop_at (n := n) (fun i => red (h0 0) (fun q => sumN (fun j => sumN (fun l => h1 (8 + j * 64 + l * 8 + q / 8) * tm h0 h1 n (fun z => f (j * 8 + z)) (fun z => g (l * 8 + z)) (q % 8)) n) j + sumN (fun l => h1 (8 + j * 64 + l * 8 + q / 8) * tm h0 h1 n (fun z => f (j * 8 + z)) (fun z => g (l * 8 + z)) (q % 8)) l + if q / 8 < i then h1 (8 + j * 64 + l * 8 + q / 8) * t (q % 8) else 0)) (red_congr fun q hq => by rw [if_neg (by omega), Int.add_zero]) (fun m'' i hi => ?_) (fun m'' => ?_) (by omega)
        · simp only [spec_l03Pairs.l2, spec_l03Pairs.b2]
          have d1 : (i : Int) < n := by omega
          have hi2 : (0 : Int) ≤ i ∧ (i : Int) < 8 := by omega
          have en := h.al.ent (i := j) (j := l) (k := i) (by omega) (by omega) (by omega)
          simp only [h.al.size, d1, hi2, hj2, hl2, decide_true, if_true, and_self, Int.toNat_natCast, Nat.mul_one]
          by_cases hk0 : h1 (8 + j * 64 + l * 8 + i) = 0
          · have hkb : (h1 (8 + j * 64 + l * 8 + i) != 0) = false := by simp [hk0]
            simp only [hkb, Bool.false_eq_true, if_false, nx (show i < 100000 by omega)]
            congr 1
            refine red_congr fun q hq => ?_
            rcases Nat.lt_trichotomy (q / 8) i with h2 | h2 | h2
            · rw [if_pos h2, if_pos (by omega)]
            · rw [if_neg (by omega), if_pos (by omega), h2, hk0, Int.zero_mul]
            · rw [if_neg (by omega), if_neg (by omega)]
          · have hkb : (h1 (8 + j * 64 + l * 8 + i) != 0) = true := by simpa using hk0
            simp only [hkb, if_true]
            rw [wrap64_id (x := h1 (8 + j * 64 + l * 8 + i)) (by omega) (by omega), spec_add _ p0 p255 (inP_byte p255 (red_in p0)) (inP_byte p255 ti) (by omega) (by omega), red_row (by omega)]
            simp only [nx (show i < 100000 by omega)]
            congr 1
            refine red_congr fun q hq => ?_
            rcases Nat.lt_trichotomy (q / 8) i with h2 | h2 | h2
            · rw [if_pos h2, if_neg (by omega), if_pos (by omega), Int.add_zero]
            · rw [if_neg (by omega), if_pos h2, if_pos (by omega), Int.add_zero, h2]
            · rw [if_neg (by omega), if_neg (by omega), if_neg (by omega), Int.add_zero]
        · simp only [spec_l03Pairs.l2, spec_l03Pairs.b2, h.al.size, Int.lt_irrefl, decide_false, Bool.false_eq_true, if_false, spec_l03Pairs.a2_0, nx (show l < 100000 by omega)]
          congr 1
          refine red_congr fun q hq => ?_
          simp only [sumN]
          rw [htm, ← Int.add_assoc]
          by_cases h2 : q / 8 < n
          · rw [if_pos h2]
          · rw [if_neg h2]
            have := h.al.mul0 j l (q / 8) (by omega) (by omega) (by omega) (by omega)
            rw [show 8 + j * 64 + l * 8 + q / 8 = 8 + (j * 64 + (l * 8 + q / 8)) by omega, this, Int.zero_mul]
    · simp only [spec_l03Pairs.l1, spec_l03Pairs.b1, h.al.size, Int.lt_irrefl, decide_false, Bool.false_eq_true, if_false, spec_l03Pairs.a1_0, nx (show j < 100000 by omega)]
      rfl
  · simp only [spec_l03Pairs.l0, spec_l03Pairs.b0, h.al.size, Int.lt_irrefl, decide_false, Bool.false_eq_true, if_false, spec_l03Pairs.a0_0]
    rfl

/-! both are alike -/

theorem emod_mul_emod' {x y z p : Int} : (x % p * y * z) % p = (x * y * z) % p := by
  rw [Int.mul_assoc, Int.mul_assoc, Int.mul_emod, Int.emod_emod, ← Int.mul_emod]

theorem mul_emod_right' {x y p : Int} : (x * (y % p)) % p = (x * y) % p := by
  rw [Int.mul_emod, Int.emod_emod, ← Int.mul_emod]

theorem tens_same (h : HS h0 h1 n) {a b : Nat → Int} : tensV (h0 0) h1 a b = pairV h0 h1 n a b := by
  have hn := h.al.le
  have m0 : ∀ i j k, i < 8 → j < 8 → k < 8 → (n ≤ i ∨ n ≤ j ∨ n ≤ k) → h1 (8 + i * 64 + j * 8 + k) = 0 := by
    intro i j k hi hj hk ho
    have := h.al.mul0 i j k hi hj hk ho
    rw [show 8 + i * 64 + j * 8 + k = 8 + (i * 64 + (j * 8 + k)) by omega]
    exact this
  unfold tensV pairV
  refine red_emod fun q hq => ?_
  have hi : q / 8 < 8 := by omega
  have hz : q % 8 < 8 := by omega
  generalize hzq : q % 8 = z at hz ⊢
  -- the program's sum, without the inner remainders and over the size alone
  have L : ∀ j k, j < 8 → k < 8 → trms (h0 0) h1 b j k (a (j * 8 + k)) q % h0 0 = trms (h0 0) h1 b j k (a (j * 8 + k)) q % h0 0 := fun _ _ _ _ => rfl
  have e1 : sumN (fun j => sumN (fun k => trms (h0 0) h1 b j k (a (j * 8 + k)) q) 8) 8 % h0 0 =
      sumN (fun j => sumN (fun k => sumN (fun l => sumN (fun m => a (j * 8 + k) * b (l * 8 + m) * h1 (8 + j * 64 + l * 8 + q / 8) * h1 (8 + k * 64 + m * 8 + z)) n) n) n) n % h0 0 := by
    have s1 : sumN (fun j => sumN (fun k => trms (h0 0) h1 b j k (a (j * 8 + k)) q) 8) 8 % h0 0 =
        sumN (fun j => sumN (fun k => sumN (fun l => sumN (fun m => a (j * 8 + k) * b (l * 8 + m) * h1 (8 + j * 64 + l * 8 + q / 8) * h1 (8 + k * 64 + m * 8 + z)) 8) 8) 8) 8 % h0 0 := by
      refine sumN_emod fun j hj => sumN_emod fun k hk => ?_
      unfold trms
      refine sumN_emod fun l hl => sumN_emod fun m hm => ?_
      unfold trm
      rw [hzq]
      exact emod_mul_emod'
    rw [s1]
    congr 1
    have hq8 : q / 8 < 8 := by omega
    rw [sumN_out (n := n) hn fun j hj hj8 => by
      rw [sumN_congr (g := fun _ => 0) fun k hk => by
        rw [sumN_congr (g := fun _ => 0) fun l hl => by
          rw [sumN_congr (g := fun _ => 0) fun m hm => by rw [m0 j l (q / 8) hj8 hl hq8 (.inl hj), Int.mul_zero, Int.zero_mul], sumN_zero], sumN_zero], sumN_zero]]
    refine sumN_congr fun j hj => ?_
    rw [sumN_out (n := n) hn fun k hk hk8 => by
      rw [sumN_congr (g := fun _ => 0) fun l hl => by
        rw [sumN_congr (g := fun _ => 0) fun m hm => by rw [m0 k m z hk8 hm hz (.inl hk), Int.mul_zero], sumN_zero], sumN_zero]]
    refine sumN_congr fun k hk => ?_
    rw [sumN_out (n := n) hn fun l hl hl8 => by
      rw [sumN_congr (g := fun _ => 0) fun m hm => by rw [m0 j l (q / 8) (by omega) hl8 hq8 (.inr (.inl hl)), Int.mul_zero, Int.zero_mul], sumN_zero]]
    refine sumN_congr fun l hl => ?_
    exact sumN_out (n := n) hn fun m hm hm8 => by rw [m0 k m z (by omega) hm8 hz (.inr (.inl hm)), Int.mul_zero]
  rw [e1]
  refine sumN_emod fun j hj => ?_
  rw [sumN_swap]
  refine sumN_emod fun l hl => ?_
  have e2 : tm h0 h1 n (fun z => a (j * 8 + z)) (fun z => b (l * 8 + z)) z = sumN (fun k => a (j * 8 + k) * sumN (fun m => b (l * 8 + m) * h1 (8 + (k * 64 + (m * 8 + z)))) n) n % h0 0 := by
    unfold tm timesV accV
    rw [if_pos hz]
  rw [e2, mul_emod_right', sumN_mul]
  congr 1
  refine sumN_congr fun k hk => ?_
  rw [sumN_mul, sumN_mul]
  refine sumN_congr fun m hm => ?_
  rw [show 8 + k * 64 + m * 8 + z = 8 + (k * 64 + (m * 8 + z)) by omega]
  rw [Int.mul_comm (h1 (8 + j * 64 + l * 8 + _)), Int.mul_assoc, Int.mul_assoc, Int.mul_assoc, Int.mul_assoc]
  congr 1
  congr 1
  exact Int.mul_comm _ _

end
end Go.Proofs.Ytacdnmdfoimjcaa.H
