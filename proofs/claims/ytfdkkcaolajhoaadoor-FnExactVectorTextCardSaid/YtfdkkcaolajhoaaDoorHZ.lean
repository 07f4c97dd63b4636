import Derived.Test.YtfdkkcaolajhoaaDoorHP0
import Derived.Test.YtfdkkcaolajhoaaDoorHyMath
import Derived.KernelRfl
import Derived.Test.YtfdkkcaolajhoaaDoorHyCon
namespace Go.Proofs.YtfdkkcaolajhoaaDoor.H
set_option linter.unusedVariables false
set_option linter.unusedSimpArgs false
open Go Go.RowKit Go.Proofs.YtfdkkcaolajhoaaDoor.Hy
set_option maxRecDepth 100000
variable {ρ : Type}
def isP (p : Int) : Bool := decide (p ∈ [2, 3, 5, 7, 11, 13, 17, 19, 23, 29, 31])
theorem thirty {p : Int} (h : 2 ≤ p) (h' : p ≤ 31) : p = 2 ∨ p = 3 ∨ p = 4 ∨ p = 5 ∨ p = 6 ∨ p = 7 ∨ p = 8 ∨ p = 9 ∨ p = 10 ∨ p = 11 ∨ p = 12 ∨ p = 13 ∨ p = 14 ∨ p = 15 ∨ p = 16 ∨ p = 17 ∨ p = 18 ∨ p = 19 ∨ p = 20 ∨ p = 21 ∨ p = 22 ∨ p = 23 ∨ p = 24 ∨ p = 25 ∨ p = 26 ∨ p = 27 ∨ p = 28 ∨ p = 29 ∨ p = 30 ∨ p = 31 := by omega
theorem isP_no {p : Int} (h : p < 2 ∨ 31 < p) : isP p = false := by
  unfold isP
  apply decide_eq_false
  simp only [List.mem_cons, List.not_mem_nil, or_false]
  omega
theorem spec_prime_high (K : Bool → Option ρ) (p : Int) (h : 31 < p) : ∀ n : Nat, n ≤ 30 → ∀ m, n < m → spec_l01Prime.l0 5000 K p (spec_l01Prime.a0_0 5000 K p) m (32 - n) = K false := by
  intro n
  induction n with
  | zero =>
    intro _ m hm
    obtain ⟨m, rfl⟩ : ∃ k, m = k + 1 := ⟨m - 1, by omega⟩
    simp only [spec_l01Prime.l0, spec_l01Prime.b0, spec_l01Prime.a0_0, spec_l01In]
    have h2 : ¬ (p ≤ 31) := by omega
    have h3 : (2 : Int) ≤ p := by omega
    simp [h2, h3]
  | succ n ih =>
    intro hn m hm
    obtain ⟨m, rfl⟩ : ∃ k, m = k + 1 := ⟨m - 1, by omega⟩
    have ih := ih (by omega) m (by omega)
    have e : IntKind.i64.wrap ((32 : Int) - ((n + 1 : Nat) : Int) + 1) = 32 - (n : Int) := by
      rw [wrap64_id (by omega) (by omega)]; omega
    have hd : (32 : Int) - ((n + 1 : Nat) : Int) < p := by omega
    have h31 : (32 : Int) - ((n + 1 : Nat) : Int) ≤ 31 := by omega
    have h0 : ¬ ((32 : Int) - ((n + 1 : Nat) : Int) = 0) := by omega
    simp only [spec_l01Prime.l0, spec_l01Prime.b0, hd, h31, h0, decide_true, if_true, if_false, e, ih]
    split <;> rfl
theorem spec_prime (K : Bool → Option ρ) (p : Int) : spec_l01Prime 5000 K p = K (isP p) := by
  by_cases h2 : p < 2
  · rw [isP_no (.inl h2)]
    have h3 : ¬ (2 < p) := by omega
    have h4 : ¬ (p ≥ 2) := by omega
    show spec_l01Prime.b0 5000 K _ _ p 2 = _
    simp [spec_l01Prime.b0, spec_l01Prime.a0_0, spec_l01In, h3, h4]
  · by_cases h31 : 31 < p
    · rw [isP_no (.inr h31)]
      exact spec_prime_high K p h31 30 (by omega) 5000 (by omega)
    · rcases thirty (Int.not_lt.1 h2) (Int.not_lt.1 h31) with h|h|h|h|h|h|h|h|h|h|h|h|h|h|h|h|h|h|h|h|h|h|h|h|h|h|h|h|h|h <;> subst h <;> kernel_rfl
theorem impl_prime (K : Bool → Option ρ) (p : Int) : impl_IsPrime 5000 K p = K (isP p) := by
  by_cases h2 : p < 2
  · rw [isP_no (.inl h2)]
    simp [impl_IsPrime, impl_IsPrime.s, h2]
  · by_cases h31 : 31 < p
    · rw [isP_no (.inr h31)]
      have h3 : p > 31 := h31
      simp [impl_IsPrime, impl_IsPrime.s, h2, h3]
    · rcases thirty (Int.not_lt.1 h2) (Int.not_lt.1 h31) with h|h|h|h|h|h|h|h|h|h|h|h|h|h|h|h|h|h|h|h|h|h|h|h|h|h|h|h|h|h <;> subst h <;> kernel_rfl
def sizB (p n : Int) : Bool := isP p && (decide (1 ≤ n) && decide (n ≤ 8))
def vecB (p n : Int) (v : Nat → Int) : Bool := allN (fun i => !decide (IntKind.i64.wrap (v i) ≥ p) && (!decide ((i : Int) ≥ n) || !(v i != 0))) 0 8
theorem nx {i : Nat} (h : i < 100000) : IntKind.i64.wrap ((i : Int) + 1) = ((i + 1 : Nat) : Int) := by
  rw [wrap64_id (by omega) (by omega)]; omega
theorem K_if (K : Bool → Option ρ) (b : Bool) : (if b = true then K true else K false) = K b := by cases b <;> rfl
theorem spec_in (K : Bool → Option ρ) (n lo hi : Int) : spec_l01In 5000 K n lo hi = K (decide (lo ≤ n) && decide (n ≤ hi)) := by
  unfold spec_l01In
  by_cases h : n ≥ lo
  · have h' : lo ≤ n := h
    simp [h, h']
  · have h' : ¬ lo ≤ n := h
    simp [h, h']
theorem impl_in_eq (K : Bool → Option ρ) (n lo hi : Int) : impl_in 5000 K n lo hi = K (decide (lo ≤ n) && decide (n ≤ hi)) := by
  unfold impl_in
  by_cases h : lo ≤ n <;> simp [h]
theorem spec_sizes (K : Bool → Option ρ) (p n : Int) : spec_l01Sizes 5000 K p n = K (sizB p n) := by
  unfold spec_l01Sizes sizB
  rw [spec_prime]
  cases isP p
  · simp
  · simp [spec_in]
theorem spec_vector (K : Bool → Option ρ) (p n : Int) (v : Nat → Int) : spec_l01Vector 5000 K p n v = K (vecB p n v) := by
  rw [spec_l01Vector, spec_l01Vector.s]
  refine Eq.trans ?_ (K_if K _)
  refine loop_all (l := fun m i => spec_l01Vector.l0 5000 K p n v (spec_l01Vector.a0_0 5000 K) m (i : Int)) (n := 8) _ (fun m i hi => ?_) (fun m => ?_) 8 0 5000 (by omega) (by omega)
  · simp only [spec_l01Vector.l0, spec_l01Vector.b0]
    have h1 : (i : Int) < 8 := by omega
    have h2 : (0 : Int) ≤ i ∧ (i : Int) < 8 := by omega
    simp only [h1, h2, decide_true, if_true, and_self, Int.toNat_natCast, Nat.mul_one, nx (show i < 100000 by omega)]
    by_cases ha : IntKind.i64.wrap (v i) ≥ p
    · simp [ha]
    · by_cases hb : (i : Int) ≥ n
      · by_cases hc : (v i != 0) = true <;> simp [ha, hb, hc]
      · simp [ha, hb]
  · rfl
theorem impl_vectorLoop (K : Bool → Option ρ) (p n : Int) (v : Nat → Int) : impl_IsVector.l0 5000 K p n v (impl_IsVector.a0_0 5000 K) 5000 0 = K (vecB p n v) := by
  refine Eq.trans ?_ (K_if K _)
  refine loop_all (l := fun m i => impl_IsVector.l0 5000 K p n v (impl_IsVector.a0_0 5000 K) m (i : Int)) (n := 8) _ (fun m i hi => ?_) (fun m => ?_) 8 0 5000 (by omega) (by omega)
  · simp only [impl_IsVector.l0, impl_IsVector.b0]
    have h1 : (i : Int) < 8 := by omega
    have h2 : (0 : Int) ≤ i ∧ (i : Int) < 8 := by omega
    simp only [h1, h2, decide_true, if_true, and_self, Int.toNat_natCast, Nat.mul_one, nx (show i < 100000 by omega)]
    by_cases ha : IntKind.i64.wrap (v i) ≥ p
    · simp [ha]
    · by_cases hb : (i : Int) ≥ n
      · by_cases hc : (v i != 0) = true <;> simp [ha, hb, hc]
      · simp [ha, hb]
  · rfl
theorem impl_isVector (K : Bool → Option ρ) (p n : Int) (v : Nat → Int) : impl_IsVector 5000 K p n v = K (sizB p n && vecB p n v) := by
  simp only [impl_IsVector, impl_IsVector.s, impl_prime, impl_in_eq, impl_vectorLoop, sizB]
  cases isP p
  · simp
  · by_cases h1 : 1 ≤ n <;> by_cases h8 : n ≤ 8 <;> simp [h1, h8]
end Go.Proofs.YtfdkkcaolajhoaaDoor.H
namespace Go.Proofs.YtfdkkcaolajhoaaDoor.H
open Go Go.RowKit Go.Proofs.YtfdkkcaolajhoaaDoor.Hy
set_option linter.unusedVariables false
set_option linter.unusedSimpArgs false
set_option maxRecDepth 100000
variable {ρ : Type}
end Go.Proofs.YtfdkkcaolajhoaaDoor.H
namespace Go.Proofs.YtfdkkcaolajhoaaDoor.H
open Go Go.RowKit Go.Proofs.YtfdkkcaolajhoaaDoor.Hy
set_option linter.unusedVariables false
set_option linter.unusedSimpArgs false
set_option maxRecDepth 100000
variable {ρ : Type}
end Go.Proofs.YtfdkkcaolajhoaaDoor.H
namespace Go.Proofs.YtfdkkcaolajhoaaDoor.H
open Go Go.RowKit Go.Proofs.YtfdkkcaolajhoaaDoor.Hy
set_option linter.unusedVariables false
set_option linter.unusedSimpArgs false
set_option maxRecDepth 100000
variable {ρ : Type}
theorem toVector_eq (K : (Nat → Int) → Option ρ) (a : Nat → Int) : laws_toVector 5000 K a = K (keepN 8 a) := by
  simp only [laws_toVector, laws_toVector.s]
  rw [show (fun _ => 0 : Nat → Int) = keepN 0 a from keepN_zero.symm]
  refine (loop_st (l := fun m i g => laws_toVector.l0 5000 K a (fun o => laws_toVector.a0_0 5000 K o) m (i : Int) g) (n := 8) (fun i => keepN i a) (fun m i hi => ?_) (fun m => ?_) 8 0 5000 (by omega) (by omega))
  · simp only [laws_toVector.l0, laws_toVector.b0]
    have h1 : (i : Int) < 8 := by omega
    have h2 : (0 : Int) ≤ i ∧ (i : Int) < 8 := by omega
    simp only [h1, h2, decide_true, if_true, and_self, Int.toNat_natCast, Nat.mul_one, nx (show i < 100000 by omega), keepN_next]
  · rfl
section
variable {a0 a1 : Nat → Int} {n : Nat}
end
end Go.Proofs.YtfdkkcaolajhoaaDoor.H
namespace Go.Proofs.YtfdkkcaolajhoaaDoor.H
open Go Go.RowKit Go.Proofs.YtfdkkcaolajhoaaDoor.Hy
set_option linter.unusedVariables false
set_option linter.unusedSimpArgs false
set_option maxRecDepth 100000
section
variable {ρ : Type}
theorem ba_ext {a b : ByteArray} (h : a.data.toList = b.data.toList) : a = b := by
  cases a; cases b
  simp only at h
  rw [Array.toList_inj] at h
  rw [h]
theorem ba_app (a b : ByteArray) : (a ++ b).data.toList = a.data.toList ++ b.data.toList := by
  rw [ByteArray.data_append]
  simp
theorem ba_size (a : ByteArray) : a.size = a.data.toList.length := by
  rw [Array.length_toList]; rfl
theorem ba_nil (a : ByteArray) : ByteArray.empty ++ a = a := ba_ext (by rw [ba_app]; simp)
theorem itoa_lo {x : Nat} (h : x < 10) : itoaS (x : Int) = ⟨#[UInt8.ofNat (48 + x)]⟩ := by
  unfold itoaS
  rw [Int.toNat_natCast, Lib.decDigits, dif_pos h]
theorem itoa_hi {x : Nat} (h : 10 ≤ x) (h' : x < 100) : itoaS (x : Int) = ⟨#[UInt8.ofNat (48 + x / 10)]⟩ ++ ⟨#[UInt8.ofNat (48 + x % 10)]⟩ := by
  refine ba_ext ?_
  rw [ba_app]
  unfold itoaS
  rw [Int.toNat_natCast, Lib.decDigits, dif_neg (by omega), Lib.decDigits, dif_pos (by omega)]
theorem dg {d : Nat} (h : d < 10) : bytesOf (upd (fun _ => 0) 0 (IntKind.u8.wrap (IntKind.i64.wrap (48 + (d : Int))))) 0 1 = ⟨#[UInt8.ofNat (48 + d)]⟩ := by
  have : d = 0 ∨ d = 1 ∨ d = 2 ∨ d = 3 ∨ d = 4 ∨ d = 5 ∨ d = 6 ∨ d = 7 ∨ d = 8 ∨ d = 9 := by omega
  rcases this with rfl | rfl | rfl | rfl | rfl | rfl | rfl | rfl | rfl | rfl <;> rfl
theorem dec_eq (K : ByteArray → Option ρ) {x : Nat} (h : x < 100) : spec_l01Dec 5000 K (x : Int) = K (itoaS (x : Int)) := by
  unfold spec_l01Dec
  by_cases h1 : x < 10
  · have g1 : (x : Int) < 10 := by omega
    simp only [g1, decide_true, if_true]
    rw [dg h1, itoa_lo h1]
  · have g1 : ¬ (x : Int) < 10 := by omega
    simp only [g1, decide_false, Bool.false_eq_true, if_false]
    have e1 : IntKind.i64.wrap (Int.tdiv (x : Int) 10) = ((x / 10 : Nat) : Int) := by
      have e : Int.tdiv (x : Int) 10 = ((x / 10 : Nat) : Int) := rfl
      rw [e, wrap64_id (by omega) (by omega)]
    have e2 : Int.tmod (x : Int) 10 = ((x % 10 : Nat) : Int) := rfl
    rw [e1, e2, dg (show x % 10 < 10 by omega)]
    unfold spec_l01Dec_v2
    have g2 : ((x / 10 : Nat) : Int) < 10 := by omega
    simp only [g2, decide_true, if_true]
    rw [dg (show x / 10 < 10 by omega), itoa_hi (by omega) h]
    exact if_pos (show 1 + 1 ≤ 4611686018427387904 by omega)
theorem itoa_size {x : Nat} (h : x < 100) : (itoaS (x : Int)).size ≤ 2 := by
  by_cases h1 : x < 10
  · rw [itoa_lo h1]; exact (show 1 ≤ 2 by omega)
  · rw [itoa_hi (by omega) h, ba_size, ba_app]; exact Nat.le_refl 2
def txt (S : Nat → ByteArray) : Nat → ByteArray
  | 0 => ByteArray.empty
  | i + 1 => if 0 < i then (txt S i ++ (ByteArray.mk #[44])) ++ S i else txt S i ++ S i
theorem txt_congr {S S' : Nat → ByteArray} : ∀ {n : Nat}, (∀ j, j < n → S j = S' j) → txt S n = txt S' n
  | 0, _ => rfl
  | n + 1, h => by simp only [txt]; rw [txt_congr fun j hj => h j (by omega), h n (by omega)]
theorem txt_size {S : Nat → ByteArray} : ∀ {n : Nat}, (∀ j, j < n → (S j).size ≤ 2) → (txt S n).size ≤ 3 * n
  | 0, _ => Nat.le_refl 0
  | n + 1, h => by
    have h1 := txt_size (n := n) fun j hj => h j (by omega)
    have h2 := h n (by omega)
    have e : (ByteArray.mk #[44]).data.toList.length = 1 := rfl
    rw [ba_size] at h1 h2 ⊢
    simp only [txt]
    split
    · rw [ba_app, ba_app, List.length_append, List.length_append, e]; omega
    · rw [ba_app, List.length_append]; omega
theorem join_snoc {xs : List (List UInt8)} {y sep : List UInt8} (h : xs ≠ []) : Lib.join (xs ++ [y]) sep = (Lib.join xs sep ++ sep) ++ y := by
  cases xs with
  | nil => exact absurd rfl h
  | cons x r =>
    rw [List.cons_append, Lib.join_cons, Lib.join_cons]
    simp [Lib.joinTail, List.append_assoc]
theorem join_txt {g : Nat → ByteArray} : ∀ n : Nat, joinS (n + 1) g (ByteArray.mk #[44]) = txt g (n + 1)
  | 0 => by
    refine ba_ext ?_
    show Lib.join [(g 0).data.toList] (ByteArray.mk #[44]).data.toList = (ByteArray.empty ++ g 0).data.toList
    rw [Lib.join_one, ba_nil]
  | n + 1 => by
    refine ba_ext ?_
    have ih := congrArg (fun a => a.data.toList) (join_txt (g := g) n)
    simp only [joinS] at ih ⊢
    rw [List.range_succ, List.map_append, List.map_append]
    simp only [List.map_cons, List.map_nil]
    rw [join_snoc (by simp), ih]
    show _ = (if 0 < n + 1 then (txt g (n + 1) ++ (ByteArray.mk #[44])) ++ g (n + 1) else txt g (n + 1) ++ g (n + 1)).data.toList
    rw [if_pos (by omega), ba_app, ba_app]
theorem spec_text (K : ByteArray → Option ρ) {n : Nat} {v : Nat → Int} (hn : n ≤ 8) (hv : ∀ i, i < 8 → ∃ x : Nat, v i = (x : Int) ∧ x < 100) : spec_l01Text 5000 K (n : Int) v = K (txt (fun i => itoaS (v i)) n) := by
  have S2 : ∀ i, i < 8 → (itoaS (v i)).size ≤ 2 := fun i hi => by obtain ⟨x, e, h⟩ := hv i hi; rw [e]; exact itoa_size h
  unfold spec_l01Text spec_l01Text.s
  refine loop_ta (n := n) (fun i => txt (fun i => itoaS (v i)) i) rfl (fun q i hi => ?_) (fun q => ?_) (by omega)
  · obtain ⟨x, e, hx⟩ := hv i (by omega)
    have z := txt_size (S := fun i => itoaS (v i)) (n := i) fun j hj => S2 j (by omega)
    have s2 := S2 i (by omega)
    simp only [spec_l01Text.l0, spec_l01Text.b0]
    have h1 : (i : Int) < (n : Int) := by omega
    have h2 : (0 : Int) ≤ i ∧ (i : Int) < 8 := by omega
    have ew : IntKind.i64.wrap (v i) = (x : Int) := by rw [e, wrap64_id (by omega) (by omega)]
    have s1 : (txt (fun i => itoaS (v i)) i).size + (itoaS (x : Int)).size ≤ 4611686018427387904 := by rw [← e]; omega
    have s3 : (txt (fun i => itoaS (v i)) i).size + (ByteArray.mk #[44]).size ≤ 4611686018427387904 := by
      have : (ByteArray.mk #[44]).size = 1 := rfl
      omega
    have s4 : (txt (fun i => itoaS (v i)) i ++ (ByteArray.mk #[44])).size + (itoaS (x : Int)).size ≤ 4611686018427387904 := by
      have : (ByteArray.mk #[44]).data.toList.length = 1 := rfl
      rw [ba_size] at z
      rw [← e, ba_size, ba_app, List.length_append]; omega
    simp only [h1, h2, decide_true, if_true, and_self, Int.toNat_natCast, Nat.mul_one, ew, dec_eq _ hx, nx (show i < 100000 by omega)]
    by_cases h0 : 0 < i
    · have g0 : (i : Int) > 0 := by omega
      simp only [g0, decide_true, if_true, s3, s4, txt, h0, e]
    · have g0 : ¬ (i : Int) > 0 := by omega
      simp only [g0, decide_false, Bool.false_eq_true, if_false, if_true, s1, txt, h0, e]
  · simp only [spec_l01Text.l0, spec_l01Text.b0, Int.lt_irrefl, decide_false, Bool.false_eq_true, if_false, spec_l01Text.a0_0]
def gS (v : Nat → Int) : Nat → Nat → ByteArray
  | 0 => fun _ => ByteArray.empty
  | i + 1 => joinN (i * 1) (gS v i) (fun z => [itoaS (v i)].getD z ByteArray.empty)
theorem gS_at {v : Nat → Int} : ∀ {n j : Nat}, j < n → gS v n j = itoaS (v j)
  | 0, j, h => by omega
  | n + 1, j, h => by
    simp only [gS, joinN, Nat.mul_one]
    by_cases e : j < n
    · rw [if_pos e]; exact gS_at e
    · have : j = n := by omega
      subst this
      rw [if_neg e, Nat.sub_self]; rfl
theorem impl_text (K : ByteArray → Option ρ) {n : Nat} {v : Nat → Int} (h1n : 1 ≤ n) (hn : n ≤ 8) (hv : ∀ i, i < 8 → ∃ x : Nat, v i = (x : Int) ∧ x < 100) : impl_vectorText 5000 K (n : Int) v = K (txt (fun i => itoaS (v i)) n) := by
  have S2 : ∀ i, i < 8 → (itoaS (v i)).size ≤ 2 := fun i hi => by obtain ⟨x, e, h⟩ := hv i hi; rw [e]; exact itoa_size h
  unfold impl_vectorText impl_vectorText.s
  rw [if_pos (show (0 : Int) ≤ (0 : Int) ∧ (0 : Int) ≤ (n : Int) ∧ (n : Int) ≤ 8 by omega)]
  refine loop_tat (n := n) (fun i => i) (gS v) rfl rfl (fun q i hi => ?_) (fun q => ?_) (by omega)
  · obtain ⟨x, e, hx⟩ := hv i (by omega)
    simp only [impl_vectorText.l0, impl_vectorText.b0]
    have h1 : (i : Int) < (n : Int) := by omega
    have h2 : (0 : Int) ≤ i ∧ (i : Int) < (n : Int) := by omega
    have ew : IntKind.i64.wrap (v i) = (x : Int) := by rw [e, wrap64_id (by omega) (by omega)]
    have h3 : (0 : Int) ≤ (x : Int) ∧ (x : Int) < 100 := by omega
    have ew' : IntKind.i64.wrap (x : Int) = (x : Int) := wrap64_id (by omega) (by omega)
    have h4 : (i + 1) * 16 ≤ 140737488355328 := by omega
    simp only [Int.toNat_natCast, h1, h2, decide_true, if_true, and_self, Nat.mul_one, Nat.zero_add, ew, ew', strconv_Itoa, h3, h4, nx (show i < 100000 by omega), gS, e]
  · simp only [impl_vectorText.l0, impl_vectorText.b0, Int.toNat_natCast, Int.lt_irrefl, decide_false, Bool.false_eq_true, if_false, impl_vectorText.a0_0, Nat.zero_add, strings_Join_su]
    obtain ⟨k, rfl⟩ : ∃ k, n = k + 1 := ⟨n - 1, by omega⟩
    have e : joinS (k + 1) (fun z => gS v (k + 1) z) (ByteArray.mk #[44]) = txt (fun i => itoaS (v i)) (k + 1) := by
      rw [join_txt]
      exact txt_congr fun j hj => gS_at hj
    have z := txt_size (S := fun i => itoaS (v i)) (n := k + 1) fun j hj => S2 j (by omega)
    rw [e, if_pos ⟨by omega, by omega⟩]
theorem spec_isVector (K : Bool → Option ρ) (p n : Int) (v : Nat → Int) : spec_IsVector 5000 K p n v = K (sizB p n && vecB p n v) := by
  unfold spec_IsVector
  rw [spec_sizes]
  cases sizB p n
  · simp
  · simp [spec_vector]
theorem isP_rng {p : Int} (h : isP p = true) : 2 ≤ p ∧ p ≤ 31 := by
  unfold isP at h
  have := of_decide_eq_true h
  simp only [List.mem_cons, List.not_mem_nil, or_false] at this
  omega
theorem fnExactVectorText_law (K : Bool → Option ρ) (p n : Int) (a : Nat → Int) (h0 : IntKind.i64.has p) (h1 : IntKind.i64.has n) (h2 : ∀ i, IntKind.u8.has (a i)) : laws_FnExactVectorText 5000 K p n a = K true := by
  have hg : ∀ z, 0 ≤ a z ∧ a z ≤ 255 := fun z => by
    have := h2 z
    simp only [IntKind.has, IntKind.min, IntKind.max] at this
    first | exact this | (simp at this; omega)
  have refl : ∀ s : ByteArray, strEq s s = true := fun s => by unfold strEq; simp
  unfold laws_FnExactVectorText
  simp only [toVector_eq]
  unfold spec_VectorText impl_VectorText
  simp only [spec_isVector, impl_isVector]
  by_cases hv : (sizB p n && vecB p n (keepN 8 a)) = true
  · simp only [hv, Bool.not_true, Bool.false_eq_true, if_false]
    simp only [Bool.and_eq_true] at hv
    obtain ⟨hs, hv⟩ := hv
    unfold sizB at hs
    simp only [Bool.and_eq_true, decide_eq_true_eq] at hs
    obtain ⟨hp, n1, n8⟩ := hs
    have hp := isP_rng hp
    unfold vecB at hv
    have hw : ∀ i, i < 8 → ∃ x : Nat, keepN 8 a i = (x : Int) ∧ x < 100 := fun i hi => by
      have q := allN_true.1 hv i (by omega) (by omega)
      simp only [Bool.and_eq_true, Bool.not_eq_true', decide_eq_false_iff_not] at q
      have q1 := q.1
      rw [keepN_at hi] at q1 ⊢
      have := hg i
      rw [wrap64_id (by omega) (by omega)] at q1
      exact ⟨(a i).toNat, by omega, by omega⟩
    obtain ⟨m, rfl⟩ : ∃ m : Nat, n = (m : Int) := ⟨n.toNat, by omega⟩
    rw [spec_text _ (by omega) hw, impl_text _ (by omega) (by omega) hw]
    simp only [refl, Bool.not_true, Bool.false_eq_true, if_false, bne_self_eq_false]
  · have hv' : (sizB p n && vecB p n (keepN 8 a)) = false := by simpa using hv
    simp only [hv', Bool.not_false, if_true, refl, Bool.not_true, Bool.false_eq_true, if_false, bne_self_eq_false]
end
end Go.Proofs.YtfdkkcaolajhoaaDoor.H
