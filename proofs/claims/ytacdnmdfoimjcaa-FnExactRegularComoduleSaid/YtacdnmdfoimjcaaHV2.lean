/- Linear maps applied, products of vectors: the reference and the program tell the same. -/
import Derived.Test.YtacdnmdfoimjcaaHV1
namespace Go.Proofs.Ytacdnmdfoimjcaa.H
set_option linter.unusedVariables false
set_option linter.unusedSimpArgs false
open Go Go.RowKit Go.Proofs.Ytacdnmdfoimjcaa.Hx
set_option linter.unusedVariables false
set_option linter.unusedSimpArgs false
set_option maxRecDepth 100000

variable {ρ : Type}

theorem inP_acc {p : Int} (hp : 0 < p) {n : Nat} {c : Nat → Int} {W : Nat → Nat → Int} : inP p (accV p n c W) := fun k _ => accV_range hp k

theorem inP_byte {p : Int} (hp' : p ≤ 255) {v : Nat → Int} (h : inP p v) : ∀ i, i < 8 → 0 ≤ v i ∧ v i ≤ 255 := fun i hi => by
  have := h i hi; omega

/-- a term that is nought adds nothing -/
theorem accV_skip {p : Int} (hp : 0 < p) {n : Nat} {c : Nat → Int} {W : Nat → Nat → Int} (h : c n = 0) : accV p (n + 1) c W = accV p n c W := by
  rw [accV_succ, h, addV_zero (fun i _ => accV_range hp i)]

/-- what a linear map leads a vector to -/
def applyV (p : Int) (n : Nat) (f v : Nat → Int) : Nat → Int := accV p n v (fun i z => f (i * 8 + z))

theorem spec_apply (K : (Nat → Int) → Option ρ) {p : Int} {n : Nat} {f v : Nat → Int} (hp : 0 < p) (hp' : p ≤ 255) (hn : n ≤ 8) (hv : inP p v) (hf : ∀ i, i < n → inP p (fun z => f (i * 8 + z))) :
    spec_l01Apply 5000 K p (n : Int) f v = K (applyV p n f v) := by
  simp only [spec_l01Apply, spec_l01Apply.s]
  rw [show (fun _ => 0 : Nat → Int) = accV p 0 v (fun i z => f (i * 8 + z)) from accV_zero.symm]
  refine (loop_st (l := fun m i g => spec_l01Apply.l0 5000 K p (n : Int) f v (fun o7 => spec_l01Apply.a0_0 5000 K o7) m (i : Int) g) (n := n) (fun i => accV p i v (fun i z => f (i * 8 + z))) (fun m i hi => ?_) (fun m => ?_) n 0 5000 (by omega) (by omega))
  · simp only [spec_l01Apply.l0, spec_l01Apply.b0]
    have h1 : (i : Int) < n := by omega
    have h2 : (0 : Int) ≤ i ∧ (i : Int) < 8 := by omega
    have a1 := hv i (by omega)
    simp only [h1, h2, decide_true, if_true, and_self, Int.toNat_natCast, Nat.mul_one, nx (show i < 100000 by omega)]
    by_cases h0 : v i = 0
    · have hb : (v i != 0) = false := by simp [h0]
      rw [accV_skip hp h0]
      simp [hb]
    · have hb : (v i != 0) = true := by simpa using h0
      simp only [hb, if_true]
      rw [wrap64_id (x := v i) (by omega) (by omega), spec_add _ hp hp' (inP_byte hp' (inP_acc hp)) (inP_byte hp' (hf i hi)) (by omega) (by omega), ← accV_succ]
  · simp [spec_l01Apply.l0, spec_l01Apply.b0, spec_l01Apply.a0_0, applyV]

/-- the product of two vectors -/
def timesV (p : Int) (n : Nat) (m v w : Nat → Int) : Nat → Int := accV p n v (fun i k => sumN (fun j => w j * m (i * 64 + (j * 8 + k))) n)

theorem accV_congr {p : Int} {n : Nat} {c : Nat → Int} {W W' : Nat → Nat → Int} (h : ∀ i k, i < n → k < 8 → W i k % p = W' i k % p) : accV p n c W = accV p n c W' := by
  funext k
  unfold accV
  split
  · rename_i hk
    refine sumN_emod fun j hj => ?_
    rw [Int.mul_emod, h j k hj hk, ← Int.mul_emod]
  · rfl

theorem emod_emod' {x p : Int} : x % p % p = x % p := Int.emod_emod _ _

theorem spec_times (K : (Nat → Int) → Option ρ) {a0 a1 v w : Nat → Int} {n : Nat} (ha : a0 1 = n) (hp : 0 < a0 0) (hp' : a0 0 ≤ 255) (hn : n ≤ 8) (hv : inP (a0 0) v) (hw : inP (a0 0) w) (hm : ∀ i j, i < n → j < n → inP (a0 0) (fun z => a1 (8 + i * 64 + (j * 8 + z)))) :
    spec_l01Times 5000 K a0 a1 v w = K (timesV (a0 0) n (fun z => a1 (8 + z)) v w) := by
  simp only [spec_l01Times, spec_l01Times.s]
  rw [show (fun _ => 0 : Nat → Int) = accV (a0 0) 0 v (fun i => applyV (a0 0) n (fun z => a1 (8 + i * 64 + z)) w) from accV_zero.symm]
  refine (loop_st (l := fun m i g => spec_l01Times.l0 5000 K a0 a1 v w (fun o8 => spec_l01Times.a0_0 5000 K o8) m (i : Int) g) (n := n) (fun i => accV (a0 0) i v (fun i => applyV (a0 0) n (fun z => a1 (8 + i * 64 + z)) w)) (fun m i hi => ?_) (fun m => ?_) n 0 5000 (by omega) (by omega))
  · simp only [spec_l01Times.l0, spec_l01Times.b0]
    have h1 : (i : Int) < n := by omega
    have h2 : (0 : Int) ≤ i ∧ (i : Int) < 8 := by omega
    have a1' := hv i (by omega)
    simp only [ha, h1, h2, decide_true, if_true, and_self, Int.toNat_natCast, Nat.mul_one, nx (show i < 100000 by omega)]
    by_cases h0 : v i = 0
    · have hb : (v i != 0) = false := by simp [h0]
      rw [accV_skip hp h0]
      simp [hb]
    · have hb : (v i != 0) = true := by simpa using h0
      simp only [hb, if_true]
      rw [spec_apply _ hp hp' hn hw (fun j hj => hm i j hi hj)]
      have hap : inP (a0 0) (applyV (a0 0) n (fun z => a1 (8 + i * 64 + z)) w) := inP_acc hp
      rw [wrap64_id (x := v i) (by omega) (by omega), spec_add _ hp hp' (inP_byte hp' (inP_acc hp)) (inP_byte hp' hap) (by omega) (by omega), ← accV_succ]
  · simp only [spec_l01Times.l0, spec_l01Times.b0, ha, Int.lt_irrefl, decide_false, Bool.false_eq_true, if_false, spec_l01Times.a0_0]
    congr 1
    refine accV_congr fun i k hi hk => ?_
    simp only [applyV, accV, hk, if_true, emod_emod']
    congr 1
    refine sumN_congr fun j _ => ?_
    rw [show 8 + i * 64 + (j * 8 + k) = 8 + (i * 64 + (j * 8 + k)) by omega]

/-- the product as the program sums it: after i rounds, and j of the next -/
theorem accV_two {p : Int} (hp : 0 < p) {n i : Nat} {v w m : Nat → Int} {j : Nat} :
    addV p (fun k => if k < 8 then (sumN (fun i => v i * sumN (fun j => w j * m (i * 64 + (j * 8 + k))) n) i + v i * sumN (fun j => w j * m (i * 64 + (j * 8 + k))) j) % p else 0) (fun z => m (i * 64 + (j * 8 + z))) (v i * w j) =
      fun k => if k < 8 then (sumN (fun i => v i * sumN (fun j => w j * m (i * 64 + (j * 8 + k))) n) i + v i * sumN (fun j => w j * m (i * 64 + (j * 8 + k))) (j + 1)) % p else 0 := by
  funext k
  unfold addV
  by_cases hk : k < 8
  · simp only [hk, if_true, sumN]
    rw [Int.emod_add_emod, Int.mul_add, Int.mul_assoc, Int.add_assoc]
  · simp only [hk, if_false]

/-- the program's sum, behind i rounds and j of the next -/
def part (p : Int) (n : Nat) (m v w : Nat → Int) (i j : Nat) : Nat → Int := fun k => if k < 8 then (sumN (fun i => v i * sumN (fun j => w j * m (i * 64 + (j * 8 + k))) n) i + v i * sumN (fun j => w j * m (i * 64 + (j * 8 + k))) j) % p else 0

theorem part_zero {p : Int} {n i : Nat} {m v w : Nat → Int} : part p n m v w i 0 = accV p i v (fun i k => sumN (fun j => w j * m (i * 64 + (j * 8 + k))) n) := by
  funext k
  simp [part, accV, sumN]

theorem part_all {p : Int} {n i : Nat} {m v w : Nat → Int} : part p n m v w i n = accV p (i + 1) v (fun i k => sumN (fun j => w j * m (i * 64 + (j * 8 + k))) n) := by
  funext k
  simp [part, accV, sumN]

theorem part_succ {p : Int} (hp : 0 < p) {n i j : Nat} {m v w : Nat → Int} : part p n m v w i (j + 1) = addV p (part p n m v w i j) (fun z => m (i * 64 + (j * 8 + z))) (v i * w j) := (accV_two hp).symm

theorem inP_part {p : Int} (hp : 0 < p) {n i j : Nat} {m v w : Nat → Int} : inP p (part p n m v w i j) := by
  intro k hk
  simp only [part, hk, if_true]
  exact ⟨Int.emod_nonneg _ (by omega), Int.emod_lt_of_pos _ hp⟩

theorem mul_range {p x y : Int} (hp' : p ≤ 255) (hx : 0 ≤ x ∧ x < p) (hy : 0 ≤ y ∧ y < p) : 0 ≤ x * y ∧ x * y ≤ 65025 := by
  have h1 := Int.mul_nonneg hx.1 hy.1
  have h2 : x * y ≤ 255 * y := Int.mul_le_mul_of_nonneg_right (by omega) hy.1
  omega

theorem impl_product (K : (Nat → Int) → Option ρ) {a0 a1 v w : Nat → Int} {n : Nat} (ha : a0 1 = n) (hp : 0 < a0 0) (hp' : a0 0 ≤ 255) (hn : n ≤ 8) (hv : inP (a0 0) v) (hw : inP (a0 0) w) (hm : ∀ i j, i < n → j < n → inP (a0 0) (fun z => a1 (8 + i * 64 + (j * 8 + z)))) :
    impl_Algebra_product 5000 K v w a0 a1 = K (timesV (a0 0) n (fun z => a1 (8 + z)) v w) := by
  simp only [impl_Algebra_product, impl_Algebra_product.s, impl_Algebra_field]
  have f0 : upd (upd (fun _ => 0) 0 (a0 0)) 1 (a0 1) 0 = a0 0 := by simp [upd]
  have f1 : upd (upd (fun _ => 0) 0 (a0 0)) 1 (a0 1) 1 = (n : Int) := by simp [upd, ha]
  generalize upd (upd (fun _ => 0) 0 (a0 0)) 1 (a0 1) = r at f0 f1
  rw [show (fun _ => 0 : Nat → Int) = accV (a0 0) 0 v (fun i k => sumN (fun j => w j * (fun z => a1 (8 + z)) (i * 64 + (j * 8 + k))) n) from accV_zero.symm]
  refine (loop_st (l := fun m i g => impl_Algebra_product.l0 5000 K v w a1 r (fun o11 => impl_Algebra_product.a0_0 5000 K o11) m (i : Int) g) (n := n) (fun i => accV (a0 0) i v (fun i k => sumN (fun j => w j * (fun z => a1 (8 + z)) (i * 64 + (j * 8 + k))) n)) (fun m i hi => ?_) (fun m => ?_) n 0 5000 (by omega) (by omega))
  · simp only [impl_Algebra_product.l0, impl_Algebra_product.b0]
    have h1 : (i : Int) < n := by omega
    have h2 : (0 : Int) ≤ i ∧ (i : Int) < 8 := by omega
    have a1' := hv i (by omega)
    simp only [f1, h1, h2, decide_true, if_true, and_self, Int.toNat_natCast, Nat.mul_one, nx (show i < 100000 by omega)]
    by_cases h0 : v i = 0
    · have hb : (v i == 0) = true := by simp [h0]
      rw [accV_skip hp h0]
      simp [hb]
    · have hb : (v i == 0) = false := by simpa using h0
      simp only [hb, Bool.false_eq_true, if_false]
      have e1 : accV (a0 0) i v (fun i k => sumN (fun j => w j * a1 (8 + (i * 64 + (j * 8 + k)))) n) = part (a0 0) n (fun z => a1 (8 + z)) v w i 0 := (part_zero (m := fun z => a1 (8 + z)) (w := w) (n := n)).symm
      have e2 : accV (a0 0) (i + 1) v (fun i k => sumN (fun j => w j * a1 (8 + (i * 64 + (j * 8 + k)))) n) = part (a0 0) n (fun z => a1 (8 + z)) v w i n := (part_all (m := fun z => a1 (8 + z)) (w := w) (n := n)).symm
      rw [e1, e2]
      refine (loop_st (l := fun m' j g => impl_Algebra_product.l1 5000 K v w a1 r (i : Int) (fun o10 => impl_Algebra_product.a1_0 5000 K (impl_Algebra_product.l0 5000 K v w a1 r (fun o11 => impl_Algebra_product.a0_0 5000 K o11) m) (fun o11 => impl_Algebra_product.a0_0 5000 K o11) (i : Int) o10) m' (j : Int) g) (n := n) (fun j => part (a0 0) n (fun z => a1 (8 + z)) v w i j) (fun m' j hj => ?_) (fun m' => ?_) n 0 5000 (by omega) (by omega))
      · simp only [impl_Algebra_product.l1, impl_Algebra_product.b1]
        have g1 : (j : Int) < n := by omega
        have g2 : (0 : Int) ≤ j ∧ (j : Int) < 8 := by omega
        have b1' := hw j (by omega)
        have c1 := mul_range hp' a1' b1'
        simp only [f1, g1, g2, h2, decide_true, if_true, and_self, Int.toNat_natCast, Nat.mul_one, nx (show j < 100000 by omega)]
        rw [wrap64_id (x := v i) (by omega) (by omega), wrap64_id (x := w j) (by omega) (by omega), wrap64_id (x := v i * w j) (by omega) (by omega)]
        have hmm : ∀ z, z < 8 → 0 ≤ a1 (8 + i * 64 + j * 8 + z) ∧ a1 (8 + i * 64 + j * 8 + z) ≤ 255 := by
          intro z hz
          have := hm i j hi hj z hz
          rw [show 8 + i * 64 + j * 8 + z = 8 + i * 64 + (j * 8 + z) by omega]
          simp only at this
          omega
        rw [impl_plus _ (by rw [f0]; exact hp) (by rw [f0]; exact hp') (by rw [f0]; exact inP_part hp) hmm (by omega) (by omega), f0, part_succ hp]
        have e3 : (fun z => a1 (8 + i * 64 + j * 8 + z)) = fun z => a1 (8 + (i * 64 + (j * 8 + z))) := by
          funext z
          rw [show 8 + i * 64 + j * 8 + z = 8 + (i * 64 + (j * 8 + z)) by omega]
        rw [e3]
      · simp only [impl_Algebra_product.l1, impl_Algebra_product.b1, f1, Int.lt_irrefl, decide_false, Bool.false_eq_true, if_false, impl_Algebra_product.a1_0, nx (show i < 100000 by omega)]
  · simp only [impl_Algebra_product.l0, impl_Algebra_product.b0, f1, Int.lt_irrefl, decide_false, Bool.false_eq_true, if_false, impl_Algebra_product.a0_0]
    rfl

theorem impl_basis_eq (K : (Nat → Int) → Option ρ) {i : Nat} (h : i < 8) : impl_basis 5000 K (i : Int) = K (upd (fun _ => 0) i 1) := by
  have h2 : (0 : Int) ≤ i ∧ (i : Int) < 8 := by omega
  simp [impl_basis, h2]

theorem spec_basis_eq (K : (Nat → Int) → Option ρ) {i : Nat} (h : i < 8) : spec_l01Basis 5000 K (i : Int) = K (upd (fun _ => 0) i 1) := by
  have h2 : (0 : Int) ≤ i ∧ (i : Int) < 8 := by omega
  simp [spec_l01Basis, h2]

end Go.Proofs.Ytacdnmdfoimjcaa.H
