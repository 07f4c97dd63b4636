import Derived.Test.YtoeailachidcdaaGreatDoorHP0
import Derived.Test.YtoeailachidcdaaGreatDoorHgMath
import Derived.KernelRfl
import Derived.Test.YtoeailachidcdaaGreatDoorHgCon
import Derived.Test.YtoeailachidcdaaGreatDoorHCon
namespace Go.Proofs.YtoeailachidcdaaGreatDoor.H
set_option linter.unusedVariables false
set_option linter.unusedSimpArgs false
set_option linter.unusedSectionVars false
open Go Go.RowKit Go.Proofs.YtoeailachidcdaaGreatDoor.Hg
set_option maxRecDepth 100000
variable {ρ : Type}
def isP (p : Int) : Bool := decide (p ∈ [2, 3, 5, 7, 11, 13, 17, 19, 23, 29, 31])
theorem thirty {p : Int} (h : 2 ≤ p) (h' : p ≤ 31) : p = 2 ∨ p = 3 ∨ p = 4 ∨ p = 5 ∨ p = 6 ∨ p = 7 ∨ p = 8 ∨ p = 9 ∨ p = 10 ∨ p = 11 ∨ p = 12 ∨ p = 13 ∨ p = 14 ∨ p = 15 ∨ p = 16 ∨ p = 17 ∨ p = 18 ∨ p = 19 ∨ p = 20 ∨ p = 21 ∨ p = 22 ∨ p = 23 ∨ p = 24 ∨ p = 25 ∨ p = 26 ∨ p = 27 ∨ p = 28 ∨ p = 29 ∨ p = 30 ∨ p = 31 := by omega
theorem isP_no {p : Int} (h : p < 2 ∨ 31 < p) : isP p = false := by
  unfold isP
  apply decide_eq_false
  simp only [List.mem_cons, List.not_mem_nil, or_false]
  omega
theorem isP_range {p : Int} (h : isP p = true) : 2 ≤ p ∧ p ≤ 31 := by
  by_cases h1 : p < 2 ∨ 31 < p
  · rw [isP_no h1] at h; cases h
  · omega
theorem spec_prime_high (K : Bool → Option ρ) (p : Int) (h : 31 < p) : ∀ n : Nat, n ≤ 30 → ∀ m, n < m → spec_l01Prime.l0 3000000 K p (spec_l01Prime.a0_0 3000000 K p) m (32 - n) = K false := by
  intro n
  induction n with
  | zero =>
    intro _ m hm
    obtain ⟨m, rfl⟩ : ∃ k, m = k + 1 := ⟨m - 1, by omega⟩
    simp only [spec_l01Prime.l0, spec_l01Prime.b0, spec_l01Prime.a0_0, spec_l01In]
    have h2 : ¬ (p ≤ 31) := by omega
    have h3 : (2 : Int) ≤ p := by omega
    simp [h2, h3]
  | succ n ih =>
    intro hn m hm
    obtain ⟨m, rfl⟩ : ∃ k, m = k + 1 := ⟨m - 1, by omega⟩
    have ih := ih (by omega) m (by omega)
    have e : IntKind.i64.wrap ((32 : Int) - ((n + 1 : Nat) : Int) + 1) = 32 - (n : Int) := by
      rw [wrap64_id (by omega) (by omega)]; omega
    have hd : (32 : Int) - ((n + 1 : Nat) : Int) < p := by omega
    have h31 : (32 : Int) - ((n + 1 : Nat) : Int) ≤ 31 := by omega
    have h0 : ¬ ((32 : Int) - ((n + 1 : Nat) : Int) = 0) := by omega
    simp only [spec_l01Prime.l0, spec_l01Prime.b0, hd, h31, h0, decide_true, if_true, if_false, e, ih]
    split <;> rfl
theorem spec_prime (K : Bool → Option ρ) (p : Int) : spec_l01Prime 3000000 K p = K (isP p) := by
  by_cases h2 : p < 2
  · rw [isP_no (.inl h2)]
    have h3 : ¬ (2 < p) := by omega
    have h4 : ¬ (p ≥ 2) := by omega
    show spec_l01Prime.b0 3000000 K _ _ p 2 = _
    simp [spec_l01Prime.b0, spec_l01Prime.a0_0, spec_l01In, h3, h4]
  · by_cases h31 : 31 < p
    · rw [isP_no (.inr h31)]
      exact spec_prime_high K p h31 30 (by omega) 3000000 (by omega)
    · rcases thirty (Int.not_lt.1 h2) (Int.not_lt.1 h31) with h|h|h|h|h|h|h|h|h|h|h|h|h|h|h|h|h|h|h|h|h|h|h|h|h|h|h|h|h|h <;> subst h <;> kernel_rfl
theorem impl_prime (K : Bool → Option ρ) (p : Int) : impl_IsPrime 3000000 K p = K (isP p) := by
  by_cases h2 : p < 2
  · rw [isP_no (.inl h2)]
    simp [impl_IsPrime, impl_IsPrime.s, h2]
  · by_cases h31 : 31 < p
    · rw [isP_no (.inr h31)]
      have h3 : p > 31 := h31
      simp [impl_IsPrime, impl_IsPrime.s, h2, h3]
    · rcases thirty (Int.not_lt.1 h2) (Int.not_lt.1 h31) with h|h|h|h|h|h|h|h|h|h|h|h|h|h|h|h|h|h|h|h|h|h|h|h|h|h|h|h|h|h <;> subst h <;> kernel_rfl
def sizB (p n : Int) : Bool := isP p && (decide (1 ≤ n) && decide (n ≤ 8))
def vecB (p n : Int) (v : Nat → Int) : Bool := allN (fun i => !decide (IntKind.i64.wrap (v i) ≥ p) && (!decide ((i : Int) ≥ n) || !(v i != 0))) 0 8
theorem nx {i : Nat} (h : i < 100000) : IntKind.i64.wrap ((i : Int) + 1) = ((i + 1 : Nat) : Int) := by
  rw [wrap64_id (by omega) (by omega)]; omega
theorem K_if (K : Bool → Option ρ) (b : Bool) : (if b = true then K true else K false) = K b := by cases b <;> rfl
theorem spec_in (K : Bool → Option ρ) (n lo hi : Int) : spec_l01In 3000000 K n lo hi = K (decide (lo ≤ n) && decide (n ≤ hi)) := by
  unfold spec_l01In
  by_cases h : n ≥ lo
  · have h' : lo ≤ n := h
    simp [h, h']
  · have h' : ¬ lo ≤ n := h
    simp [h, h']
theorem impl_in_eq (K : Bool → Option ρ) (n lo hi : Int) : impl_in 3000000 K n lo hi = K (decide (lo ≤ n) && decide (n ≤ hi)) := by
  unfold impl_in
  by_cases h : lo ≤ n <;> simp [h]
theorem spec_sizes (K : Bool → Option ρ) (p n : Int) : spec_l01Sizes 3000000 K p n = K (sizB p n) := by
  unfold spec_l01Sizes sizB
  rw [spec_prime]
  cases isP p
  · simp
  · simp [spec_in]
theorem spec_vector (K : Bool → Option ρ) (p n : Int) (v : Nat → Int) : spec_l01Vector 3000000 K p n v = K (vecB p n v) := by
  rw [spec_l01Vector, spec_l01Vector.s]
  refine Eq.trans ?_ (K_if K _)
  refine loop_all (l := fun m i => spec_l01Vector.l0 3000000 K p n v (spec_l01Vector.a0_0 3000000 K) m (i : Int)) (n := 8) _ (fun m i hi => ?_) (fun m => ?_) 8 0 3000000 (by omega) (by omega)
  · simp only [spec_l01Vector.l0, spec_l01Vector.b0]
    have h1 : (i : Int) < 8 := by omega
    have h2 : (0 : Int) ≤ i ∧ (i : Int) < 8 := by omega
    simp only [h1, h2, decide_true, if_true, and_self, Int.toNat_natCast, Nat.mul_one, nx (show i < 100000 by omega)]
    by_cases ha : IntKind.i64.wrap (v i) ≥ p
    · simp [ha]
    · by_cases hb : (i : Int) ≥ n
      · by_cases hc : (v i != 0) = true <;> simp [ha, hb, hc]
      · simp [ha, hb]
  · rfl
theorem impl_vectorLoop (K : Bool → Option ρ) (p n : Int) (v : Nat → Int) : impl_IsVector.l0 3000000 K p n v (impl_IsVector.a0_0 3000000 K) 3000000 0 = K (vecB p n v) := by
  refine Eq.trans ?_ (K_if K _)
  refine loop_all (l := fun m i => impl_IsVector.l0 3000000 K p n v (impl_IsVector.a0_0 3000000 K) m (i : Int)) (n := 8) _ (fun m i hi => ?_) (fun m => ?_) 8 0 3000000 (by omega) (by omega)
  · simp only [impl_IsVector.l0, impl_IsVector.b0]
    have h1 : (i : Int) < 8 := by omega
    have h2 : (0 : Int) ≤ i ∧ (i : Int) < 8 := by omega
    simp only [h1, h2, decide_true, if_true, and_self, Int.toNat_natCast, Nat.mul_one, nx (show i < 100000 by omega)]
    by_cases ha : IntKind.i64.wrap (v i) ≥ p
    · simp [ha]
    · by_cases hb : (i : Int) ≥ n
      · by_cases hc : (v i != 0) = true <;> simp [ha, hb, hc]
      · simp [ha, hb]
  · rfl
theorem impl_isVector (K : Bool → Option ρ) (p n : Int) (v : Nat → Int) : impl_IsVector 3000000 K p n v = K (sizB p n && vecB p n v) := by
  simp only [impl_IsVector.opq, impl_IsVector.bdy, impl_IsVector.s, impl_prime, impl_in_eq, impl_vectorLoop, sizB]
  cases isP p
  · simp
  · by_cases h1 : 1 ≤ n <;> by_cases h8 : n ≤ 8 <;> simp [h1, h8]
end Go.Proofs.YtoeailachidcdaaGreatDoor.H
namespace Go.Proofs.YtoeailachidcdaaGreatDoor.H
open Go Go.RowKit Go.Proofs.YtoeailachidcdaaGreatDoor.Hg
set_option linter.unusedVariables false
set_option linter.unusedSimpArgs false
set_option maxRecDepth 100000
variable {ρ : Type}
def inP (p : Int) (v : Nat → Int) : Prop := ∀ i, i < 8 → 0 ≤ v i ∧ v i < p
theorem spec_mod (K : Int → Option ρ) {p x : Int} (hp : 0 < p) (hp' : p ≤ 255) (hx : -1000000000000 ≤ x) (hx' : x ≤ 1000000000000) : spec_l01Mod 3000000 K p x = K (x % p) := by
  have h0 : ¬ p = 0 := by omega
  have h1 := tmod_lt (x := x) hp
  have h2 := tmod_gt (x := x) hp
  have h3 : Int.tmod (IntKind.i64.wrap (Int.tmod x p + p)) p = x % p := by
    rw [wrap64_id (by omega) (by omega), Int.tmod_eq_emod_of_nonneg (by omega), Int.add_emod_right, tmod_emod]
  have h4 : 0 ≤ x % p := Int.emod_nonneg _ (by omega)
  have h5 : x % p < p := Int.emod_lt_of_pos _ hp
  simp only [spec_l01Mod, h0, if_false, h3]
  rw [wrap8_id h4 (by omega)]
theorem impl_mod (K : Int → Option ρ) {f : Nat → Int} {x : Int} (hp : 0 < f 0) (hp' : f 0 ≤ 255) : impl_field_mod 3000000 K f x = K (x % f 0) := by
  have h0 : ¬ f 0 = 0 := by omega
  have h1 := tmod_lt (x := x) hp
  have h2 := tmod_gt (x := x) hp
  have h3 := tmod_emod (x := x) (p := f 0)
  simp only [impl_field_mod, h0, if_false]
  by_cases hneg : Int.tmod x (f 0) < 0
  · have e : x % f 0 = Int.tmod x (f 0) + f 0 := by
      rw [← h3, ← Int.add_emod_right, Int.emod_eq_of_lt (by omega) (by omega)]
    simp only [hneg, decide_true, if_true]
    rw [wrap64_id (by omega) (by omega), wrap8_id (by omega) (by omega), e]
  · have e : x % f 0 = Int.tmod x (f 0) := by
      rw [← h3, Int.emod_eq_of_lt (by omega) (by omega)]
    simp only [hneg, decide_false, if_false, Bool.false_eq_true]
    rw [wrap8_id (by omega) (by omega), e]
def addTo (p : Int) (v w : Nat → Int) (k : Int) (n : Nat) : Nat → Int := fun i => if i < n then (v i + k * w i) % p else v i
theorem addTo_next {p : Int} {v w : Nat → Int} {k : Int} {n : Nat} : upd (addTo p v w k n) n ((v n + k * w n) % p) = addTo p v w k (n + 1) := by
  funext i
  unfold upd addTo
  by_cases h : i = n
  · subst h; simp
  · by_cases h2 : i < n
    · simp [h, h2, show i < n + 1 by omega]
    · simp [h, h2, show ¬ i < n + 1 by omega]
theorem addTo_at {p : Int} {v w : Nat → Int} {k : Int} {n : Nat} : addTo p v w k n n = v n := by simp [addTo]
theorem mul_small {k x : Int} (hk : -1000000 ≤ k) (hk' : k ≤ 1000000) (hx : 0 ≤ x) (hx' : x ≤ 255) : -255000000 ≤ k * x ∧ k * x ≤ 255000000 := by
  have h1 : -1000000 * x ≤ k * x := Int.mul_le_mul_of_nonneg_right hk hx
  have h2 : k * x ≤ 1000000 * x := Int.mul_le_mul_of_nonneg_right hk' hx
  omega
theorem spec_add (K : (Nat → Int) → Option ρ) {p : Int} {v w : Nat → Int} {k : Int} (hp : 0 < p) (hp' : p ≤ 255) (hv : ∀ i, i < 8 → 0 ≤ v i ∧ v i ≤ 255) (hw : ∀ i, i < 8 → 0 ≤ w i ∧ w i ≤ 255) (hk : -1000000 ≤ k) (hk' : k ≤ 1000000) :
    spec_l01Add 3000000 K p v w k = K (addV p v w k) := by
  rw [spec_l01Add, spec_l01Add.s]
  refine (loop_st (l := fun m i g => spec_l01Add.l0 3000000 K p w k (fun o7 => spec_l01Add.a0_0 3000000 K o7) m (i : Int) g) (n := 8) (addTo p v w k) (fun m i hi => ?_) (fun m => ?_) 8 0 3000000 (by omega) (by omega))
  · simp only [spec_l01Add.l0, spec_l01Add.b0]
    have h1 : (i : Int) < 8 := by omega
    have h2 : (0 : Int) ≤ i ∧ (i : Int) < 8 := by omega
    have a1 := hv i hi
    have a2 := hw i hi
    have a3 := mul_small hk hk' a2.1 a2.2
    simp only [h1, h2, decide_true, if_true, and_self, Int.toNat_natCast, Nat.mul_one, nx (show i < 100000 by omega), addTo_at]
    rw [wrap64_id (x := v i) (by omega) (by omega), wrap64_id (x := w i) (by omega) (by omega), wrap64_id (x := k * w i) (by omega) (by omega), wrap64_id (x := v i + k * w i) (by omega) (by omega),
      spec_mod _ hp hp' (by omega) (by omega), addTo_next]
  · rfl
end Go.Proofs.YtoeailachidcdaaGreatDoor.H
namespace Go.Proofs.YtoeailachidcdaaGreatDoor.H
open Go Go.RowKit Go.Proofs.YtoeailachidcdaaGreatDoor.Hg
set_option linter.unusedVariables false
set_option linter.unusedSimpArgs false
set_option maxRecDepth 100000
section
variable {ρ : Type}
theorem ba_ext {a b : ByteArray} (h : a.data.toList = b.data.toList) : a = b := by
  cases a; cases b
  simp only at h
  rw [Array.toList_inj] at h
  rw [h]
theorem ba_app (a b : ByteArray) : (a ++ b).data.toList = a.data.toList ++ b.data.toList := by
  rw [ByteArray.data_append]
  simp
theorem ba_size (a : ByteArray) : a.size = a.data.toList.length := by
  rw [Array.length_toList]; rfl
theorem ba_nil (a : ByteArray) : ByteArray.empty ++ a = a := ba_ext (by rw [ba_app]; simp)
theorem itoa_lo {x : Nat} (h : x < 10) : itoaS (x : Int) = ⟨#[UInt8.ofNat (48 + x)]⟩ := by
  unfold itoaS
  rw [Int.toNat_natCast, Lib.decDigits, dif_pos h]
theorem itoa_hi {x : Nat} (h : 10 ≤ x) (h' : x < 100) : itoaS (x : Int) = ⟨#[UInt8.ofNat (48 + x / 10)]⟩ ++ ⟨#[UInt8.ofNat (48 + x % 10)]⟩ := by
  refine ba_ext ?_
  rw [ba_app]
  unfold itoaS
  rw [Int.toNat_natCast, Lib.decDigits, dif_neg (by omega), Lib.decDigits, dif_pos (by omega)]
theorem dg {d : Nat} (h : d < 10) : bytesOf (upd (fun _ => 0) 0 (IntKind.u8.wrap (IntKind.i64.wrap (48 + (d : Int))))) 0 1 = ⟨#[UInt8.ofNat (48 + d)]⟩ := by
  have : d = 0 ∨ d = 1 ∨ d = 2 ∨ d = 3 ∨ d = 4 ∨ d = 5 ∨ d = 6 ∨ d = 7 ∨ d = 8 ∨ d = 9 := by omega
  rcases this with rfl | rfl | rfl | rfl | rfl | rfl | rfl | rfl | rfl | rfl <;> rfl
theorem dec_eq (K : ByteArray → Option ρ) {x : Nat} (h : x < 100) : spec_l01Dec 3000000 K (x : Int) = K (itoaS (x : Int)) := by
  unfold spec_l01Dec
  by_cases h1 : x < 10
  · have g1 : (x : Int) < 10 := by omega
    simp only [g1, decide_true, if_true]
    rw [dg h1, itoa_lo h1]
  · have g1 : ¬ (x : Int) < 10 := by omega
    simp only [g1, decide_false, Bool.false_eq_true, if_false]
    have e1 : IntKind.i64.wrap (Int.tdiv (x : Int) 10) = ((x / 10 : Nat) : Int) := by
      have e : Int.tdiv (x : Int) 10 = ((x / 10 : Nat) : Int) := rfl
      rw [e, wrap64_id (by omega) (by omega)]
    have e2 : Int.tmod (x : Int) 10 = ((x % 10 : Nat) : Int) := rfl
    rw [e1, e2, dg (show x % 10 < 10 by omega)]
    unfold spec_l01Dec_v2
    have g2 : ((x / 10 : Nat) : Int) < 10 := by omega
    simp only [g2, decide_true, if_true]
    rw [dg (show x / 10 < 10 by omega), itoa_hi (by omega) h]
    exact if_pos (show 1 + 1 ≤ 4611686018427387904 by omega)
theorem itoa_size {x : Nat} (h : x < 100) : (itoaS (x : Int)).size ≤ 2 := by
  by_cases h1 : x < 10
  · rw [itoa_lo h1]; exact (show 1 ≤ 2 by omega)
  · rw [itoa_hi (by omega) h, ba_size, ba_app]; exact Nat.le_refl 2
def txt (S : Nat → ByteArray) : Nat → ByteArray
  | 0 => ByteArray.empty
  | i + 1 => if 0 < i then (txt S i ++ (ByteArray.mk #[44])) ++ S i else txt S i ++ S i
theorem txt_congr {S S' : Nat → ByteArray} : ∀ {n : Nat}, (∀ j, j < n → S j = S' j) → txt S n = txt S' n
  | 0, _ => rfl
  | n + 1, h => by simp only [txt]; rw [txt_congr fun j hj => h j (by omega), h n (by omega)]
theorem txt_size {S : Nat → ByteArray} : ∀ {n : Nat}, (∀ j, j < n → (S j).size ≤ 2) → (txt S n).size ≤ 3 * n
  | 0, _ => Nat.le_refl 0
  | n + 1, h => by
    have h1 := txt_size (n := n) fun j hj => h j (by omega)
    have h2 := h n (by omega)
    have e : (ByteArray.mk #[44]).data.toList.length = 1 := rfl
    rw [ba_size] at h1 h2 ⊢
    simp only [txt]
    split
    · rw [ba_app, ba_app, List.length_append, List.length_append, e]; omega
    · rw [ba_app, List.length_append]; omega
theorem join_snoc {xs : List (List UInt8)} {y sep : List UInt8} (h : xs ≠ []) : Lib.join (xs ++ [y]) sep = (Lib.join xs sep ++ sep) ++ y := by
  cases xs with
  | nil => exact absurd rfl h
  | cons x r =>
    rw [List.cons_append, Lib.join_cons, Lib.join_cons]
    simp [Lib.joinTail, List.append_assoc]
theorem join_txt {g : Nat → ByteArray} : ∀ n : Nat, joinS (n + 1) g (ByteArray.mk #[44]) = txt g (n + 1)
  | 0 => by
    refine ba_ext ?_
    show Lib.join [(g 0).data.toList] (ByteArray.mk #[44]).data.toList = (ByteArray.empty ++ g 0).data.toList
    rw [Lib.join_one, ba_nil]
  | n + 1 => by
    refine ba_ext ?_
    have ih := congrArg (fun a => a.data.toList) (join_txt (g := g) n)
    simp only [joinS] at ih ⊢
    rw [List.range_succ, List.map_append, List.map_append]
    simp only [List.map_cons, List.map_nil]
    rw [join_snoc (by simp), ih]
    show _ = (if 0 < n + 1 then (txt g (n + 1) ++ (ByteArray.mk #[44])) ++ g (n + 1) else txt g (n + 1) ++ g (n + 1)).data.toList
    rw [if_pos (by omega), ba_app, ba_app]
theorem spec_text (K : ByteArray → Option ρ) {n : Nat} {v : Nat → Int} (hn : n ≤ 8) (hv : ∀ i, i < 8 → ∃ x : Nat, v i = (x : Int) ∧ x < 100) : spec_l01Text 3000000 K (n : Int) v = K (txt (fun i => itoaS (v i)) n) := by
  have S2 : ∀ i, i < 8 → (itoaS (v i)).size ≤ 2 := fun i hi => by obtain ⟨x, e, h⟩ := hv i hi; rw [e]; exact itoa_size h
  unfold spec_l01Text spec_l01Text.s
  refine loop_ta (n := n) (fun i => txt (fun i => itoaS (v i)) i) rfl (fun q i hi => ?_) (fun q => ?_) (by omega)
  · obtain ⟨x, e, hx⟩ := hv i (by omega)
    have z := txt_size (S := fun i => itoaS (v i)) (n := i) fun j hj => S2 j (by omega)
    have s2 := S2 i (by omega)
    simp only [spec_l01Text.l0, spec_l01Text.b0]
    have h1 : (i : Int) < (n : Int) := by omega
    have h2 : (0 : Int) ≤ i ∧ (i : Int) < 8 := by omega
    have ew : IntKind.i64.wrap (v i) = (x : Int) := by rw [e, wrap64_id (by omega) (by omega)]
    have s1 : (txt (fun i => itoaS (v i)) i).size + (itoaS (x : Int)).size ≤ 4611686018427387904 := by rw [← e]; omega
    have s3 : (txt (fun i => itoaS (v i)) i).size + (ByteArray.mk #[44]).size ≤ 4611686018427387904 := by
      have : (ByteArray.mk #[44]).size = 1 := rfl
      omega
    have s4 : (txt (fun i => itoaS (v i)) i ++ (ByteArray.mk #[44])).size + (itoaS (x : Int)).size ≤ 4611686018427387904 := by
      have : (ByteArray.mk #[44]).data.toList.length = 1 := rfl
      rw [ba_size] at z
      rw [← e, ba_size, ba_app, List.length_append]; omega
    simp only [h1, h2, decide_true, if_true, and_self, Int.toNat_natCast, Nat.mul_one, ew, dec_eq _ hx, nx (show i < 100000 by omega)]
    by_cases h0 : 0 < i
    · have g0 : (i : Int) > 0 := by omega
      simp only [g0, decide_true, if_true, s3, s4, txt, h0, e]
    · have g0 : ¬ (i : Int) > 0 := by omega
      simp only [g0, decide_false, Bool.false_eq_true, if_false, if_true, s1, txt, h0, e]
  · simp only [spec_l01Text.l0, spec_l01Text.b0, Int.lt_irrefl, decide_false, Bool.false_eq_true, if_false, spec_l01Text.a0_0]
def gS (v : Nat → Int) : Nat → Nat → ByteArray
  | 0 => fun _ => ByteArray.empty
  | i + 1 => joinN (i * 1) (gS v i) (fun z => [itoaS (v i)].getD z ByteArray.empty)
theorem gS_at {v : Nat → Int} : ∀ {n j : Nat}, j < n → gS v n j = itoaS (v j)
  | 0, j, h => by omega
  | n + 1, j, h => by
    simp only [gS, joinN, Nat.mul_one]
    by_cases e : j < n
    · rw [if_pos e]; exact gS_at e
    · have : j = n := by omega
      subst this
      rw [if_neg e, Nat.sub_self]; rfl
theorem impl_text (K : ByteArray → Option ρ) {n : Nat} {v : Nat → Int} (h1n : 1 ≤ n) (hn : n ≤ 8) (hv : ∀ i, i < 8 → ∃ x : Nat, v i = (x : Int) ∧ x < 100) : impl_vectorText 3000000 K (n : Int) v = K (txt (fun i => itoaS (v i)) n) := by
  have S2 : ∀ i, i < 8 → (itoaS (v i)).size ≤ 2 := fun i hi => by obtain ⟨x, e, h⟩ := hv i hi; rw [e]; exact itoa_size h
  unfold impl_vectorText impl_vectorText.s
  rw [if_pos (show (0 : Int) ≤ (0 : Int) ∧ (0 : Int) ≤ (n : Int) ∧ (n : Int) ≤ 8 by omega)]
  refine loop_tat (n := n) (fun i => i) (gS v) rfl rfl (fun q i hi => ?_) (fun q => ?_) (by omega)
  · obtain ⟨x, e, hx⟩ := hv i (by omega)
    simp only [impl_vectorText.l0, impl_vectorText.b0]
    have h1 : (i : Int) < (n : Int) := by omega
    have h2 : (0 : Int) ≤ i ∧ (i : Int) < (n : Int) := by omega
    have ew : IntKind.i64.wrap (v i) = (x : Int) := by rw [e, wrap64_id (by omega) (by omega)]
    have h3 : (0 : Int) ≤ (x : Int) ∧ (x : Int) < 100 := by omega
    have ew' : IntKind.i64.wrap (x : Int) = (x : Int) := wrap64_id (by omega) (by omega)
    have h4 : (i + 1) * 16 ≤ 140737488355328 := by omega
    simp only [Int.toNat_natCast, h1, h2, decide_true, if_true, and_self, Nat.mul_one, Nat.zero_add, ew, ew', strconv_Itoa, h3, h4, nx (show i < 100000 by omega), gS, e]
  · simp only [impl_vectorText.l0, impl_vectorText.b0, Int.toNat_natCast, Int.lt_irrefl, decide_false, Bool.false_eq_true, if_false, impl_vectorText.a0_0, Nat.zero_add, strings_Join_su]
    obtain ⟨k, rfl⟩ : ∃ k, n = k + 1 := ⟨n - 1, by omega⟩
    have e : joinS (k + 1) (fun z => gS v (k + 1) z) (ByteArray.mk #[44]) = txt (fun i => itoaS (v i)) (k + 1) := by
      rw [join_txt]
      exact txt_congr fun j hj => gS_at hj
    have z := txt_size (S := fun i => itoaS (v i)) (n := k + 1) fun j hj => S2 j (by omega)
    rw [e, if_pos ⟨by omega, by omega⟩]
theorem spec_isVector (K : Bool → Option ρ) (p n : Int) (v : Nat → Int) : spec_IsVector 3000000 K p n v = K (sizB p n && vecB p n v) := by
  rw [spec_IsVector.opq]; unfold spec_IsVector.bdy
  rw [spec_sizes]
  cases sizB p n
  · simp
  · simp [spec_vector]
end
end Go.Proofs.YtoeailachidcdaaGreatDoor.H
namespace Go.Proofs.YtoeailachidcdaaGreatDoor.H
open Go Go.RowKit Go.Proofs.YtoeailachidcdaaGreatDoor.Hg
set_option linter.unusedVariables false
set_option linter.unusedSimpArgs false
set_option maxRecDepth 100000
section
variable {ρ : Type}
def sp : List UInt8 → List (List UInt8)
  | [] => [[]]
  | c :: r => if c = 44 then [] :: sp r else (match sp r with | [] => [[c]] | h :: t => (c :: h) :: t)
theorem sp_ne : ∀ l, sp l ≠ []
  | [] => by simp [sp]
  | c :: r => by
    simp only [sp]
    split
    · simp
    · split <;> simp
theorem sp_one : ∀ {u : List UInt8}, (44 : UInt8) ∉ u → sp u = [u]
  | [], _ => rfl
  | c :: r, h => by
    have h1 : c ≠ 44 := fun e => h (by simp [e])
    have h2 := sp_one (u := r) fun e => h (List.mem_cons_of_mem _ e)
    simp only [sp, if_neg h1, h2]
theorem sp_app : ∀ {a b : List UInt8}, sp (a ++ 44 :: b) = sp a ++ sp b
  | [], b => by simp [sp]
  | c :: r, b => by
    have ih := sp_app (a := r) (b := b)
    simp only [List.cons_append, sp, ih]
    split
    · rfl
    · cases hs : sp r with
      | nil => exact absurd hs (sp_ne r)
      | cons h t => rfl
def glue : List (List UInt8) → List UInt8
  | [] => []
  | [u] => u
  | u :: v :: r => u ++ 44 :: glue (v :: r)
theorem glue_sp : ∀ l, glue (sp l) = l
  | [] => rfl
  | c :: r => by
    have ih := glue_sp r
    simp only [sp]
    cases hs : sp r with
    | nil => exact absurd hs (sp_ne r)
    | cons h t =>
      rw [hs] at ih
      split
      · rename_i e
        subst e
        show [] ++ 44 :: glue (h :: t) = _
        rw [ih]; rfl
      · cases t with
        | nil => show c :: h = c :: r; rw [← ih]; rfl
        | cons v q => show (c :: h) ++ 44 :: glue (v :: q) = _; rw [← ih]; rfl
theorem sp_inj {l l' : List UInt8} (h : sp l = sp l') : l = l' := by rw [← glue_sp l, h, glue_sp]
theorem idx : ∀ l : List UInt8, ((44 : UInt8) ∉ l ∧ Lib.index l [44] = -1) ∨ ∃ u r, l = u ++ 44 :: r ∧ (44 : UInt8) ∉ u ∧ Lib.index l [44] = (u.length : Int)
  | [] => .inl ⟨by simp, rfl⟩
  | c :: l => by
    by_cases h : c = 44
    · subst h; exact .inr ⟨[], l, rfl, by simp, by simp [Lib.index, List.isPrefixOf]⟩
    · have hp : ([44] : List UInt8).isPrefixOf (c :: l) = false := by simp [List.isPrefixOf, Ne.symm h]
      rcases idx l with ⟨h1, h2⟩ | ⟨u, r, h1, h2, h3⟩
      · exact .inl ⟨by simp [Ne.symm h, h1], by simp [Lib.index, hp, h2]⟩
      · refine .inr ⟨c :: u, r, by simp [h1], by simp [Ne.symm h, h2], ?_⟩
        have : ¬ ((u.length : Int) == -1) = true := fun e => by have := beq_iff_eq.1 e; omega
        rw [Lib.index, hp, h3, if_neg (by simp), if_neg this]
        simp
theorem ext_list (s : ByteArray) (a b : Nat) : (s.extract a b).data.toList = (s.data.toList.drop a).take (b - a) := by
  rw [ByteArray.data_extract, Array.toList_extract]
theorem splitB_sp : ∀ (k : Nat) (s : ByteArray), Lib.countB s (ByteArray.mk #[44]) = k → (Lib.splitB (ByteArray.mk #[44]) 0 k s).map (·.data.toList) = sp s.data.toList
  | 0, s, hk => by
    rcases idx s.data.toList with ⟨h1, h2⟩ | ⟨u, r, h1, h2, h3⟩
    · simp [Lib.splitB, sp_one h1]
    · have := Lib.countB_hit s (ByteArray.mk #[44]) u.length (Nat.le_refl 1) h3; omega
  | k + 1, s, hk => by
    rcases idx s.data.toList with ⟨h1, h2⟩ | ⟨u, r, h1, h2, h3⟩
    · have := Lib.countB_miss s (ByteArray.mk #[44]) h2; omega
    · have hc := Lib.countB_hit s (ByteArray.mk #[44]) u.length (Nat.le_refl 1) h3
      have hz : s.size = u.length + (r.length + 1) := by rw [ba_size, h1]; simp
      rw [Lib.splitB_hit _ 0 k s u.length h3, List.map_cons, splitB_sp k _ (by omega), ext_list, ext_list, h1, sp_app, sp_one h2]
      have e1 : (List.drop 0 (u ++ 44 :: r)).take (u.length + 0 - 0) = u := by simp
      have e2 : (List.drop (u.length + (ByteArray.mk #[44]).size) (u ++ 44 :: r)).take (s.size - (u.length + (ByteArray.mk #[44]).size)) = r := by
        have es : (ByteArray.mk #[44]).size = 1 := rfl
        rw [es, hz, ← List.drop_drop, List.drop_left]
        show r.take (u.length + (r.length + 1) - (u.length + 1)) = r
        exact List.take_of_length_le (by omega)
      rw [e1, e2]; rfl
def rep (g : Nat → ByteArray) (D : List (List UInt8)) : Prop := ∀ j x, D[j]? = some x → (g j).data.toList = x
theorem rep_split (s : ByteArray) : rep (splitW s (ByteArray.mk #[44])) (sp s.data.toList) := by
  intro j x h
  rw [← splitB_sp _ s rfl, List.getElem?_map] at h
  unfold splitW
  rw [List.getD_eq_getElem?_getD]
  cases hh : (Lib.splitB (ByteArray.mk #[44]) 0 (Lib.countB s (ByteArray.mk #[44])) s)[j]? with
  | none => rw [hh] at h; cases h
  | some y => rw [hh] at h; cases h; rfl
theorem splitN_len (s : ByteArray) : splitN s (ByteArray.mk #[44]) = (sp s.data.toList).length := by
  rw [← splitB_sp _ s rfl, List.length_map, Lib.splitB_all (ByteArray.mk #[44]) (Nat.le_refl 1) 0 _ s rfl]; rfl
theorem rep_snoc {g : Nat → ByteArray} {D : List (List UInt8)} {n : Nat} (hn : D.length = n) (e : ByteArray) (h : rep g D) : rep (joinN (n * 1) g (fun z => [e].getD z ByteArray.empty)) (D ++ [e.data.toList]) := by
  intro j x hx
  subst hn
  unfold joinN
  rw [Nat.mul_one]
  rw [List.getElem?_append] at hx
  split at hx
  · rename_i h1
    rw [if_pos h1]
    exact h j x hx
  · rename_i h1
    rw [if_neg h1]
    cases hk : j - D.length with
    | zero => rw [hk] at hx; cases hx; rfl
    | succ q => rw [hk] at hx; simp at hx
theorem drop_at {l : List UInt8} {i : Nat} (h : i < l.length) : l.drop i = l[i] :: l.drop (i + 1) := List.drop_eq_getElem_cons h
theorem bt_at {t : ByteArray} {i : Nat} (h : i < t.data.toList.length) : bt t i = ((t.data.toList[i]).toNat : Int) := by
  unfold bt
  have h' : i < t.data.size := by rwa [Array.length_toList] at h
  have e : t.data.getD i 0 = t.data[i] := dif_pos h'
  rw [e, Array.getElem_toList]
theorem take_next {l : List UInt8} {a i : Nat} (h : a ≤ i) (hi : i < l.length) : (l.drop a).take (i + 1 - a) = (l.drop a).take (i - a) ++ [l[i]] := by
  rw [show i + 1 - a = (i - a) + 1 by omega, List.take_add_one, List.getElem?_drop, show a + (i - a) = i by omega, List.getElem?_eq_getElem hi]
  rfl
theorem cut_at {l : List UInt8} {a i : Nat} (h : a ≤ i) (hi : i < l.length) : l.drop a = (l.drop a).take (i - a) ++ l[i] :: l.drop (i + 1) := by
  rw [← drop_at hi]
  have := List.take_append_drop (i - a) (l.drop a)
  rw [List.drop_drop, show a + (i - a) = i by omega] at this
  exact this.symm
theorem split_loop (K : Nat → (Nat → ByteArray) → Option ρ) (t : ByteArray) (ht : t.size ≤ 1000000) : ∀ (k i outv a : Nat) (g : Nat → ByteArray) (m : Nat) (D : List (List UInt8)), i + k = t.data.toList.length → k < m → a ≤ i → outv ≤ i → D.length = outv →
    (44 : UInt8) ∉ (t.data.toList.drop a).take (i - a) → rep g D → sp t.data.toList = D ++ sp (t.data.toList.drop a) →
    ∃ G, rep G (sp t.data.toList) ∧ spec_l01Split.l0 3000000 K t 44 (fun ov6 ov7 ov8 => spec_l01Split.a0_0 3000000 K t ov6 ov7 ov8) m outv (a : Int) (i : Int) g = K (sp t.data.toList).length G
  | 0, i, outv, a, g, m, D, hi, hm, ha, ho, hD, hc, hr, hs => by
    obtain ⟨m, rfl⟩ : ∃ q, m = q + 1 := ⟨m - 1, by omega⟩
    have hz := ba_size t
    have e0 : (t.data.toList.drop a).take (i - a) = t.data.toList.drop a := List.take_of_length_le (by rw [List.length_drop]; omega)
    rw [e0] at hc
    rw [sp_one hc] at hs
    refine ⟨joinN (outv * 1) g (fun z => [t.extract a t.size].getD z ByteArray.empty), ?_, ?_⟩
    · have := rep_snoc hD (t.extract a t.size) hr
      rw [ext_list, List.take_of_length_le (by rw [List.length_drop]; omega)] at this
      rw [hs]; exact this
    · simp only [spec_l01Split.l0, spec_l01Split.b0]
      have h1 : ¬ (i : Int) < (t.size : Int) := by omega
      simp only [h1, decide_false, Bool.false_eq_true, if_false, spec_l01Split.a0_0]
      have h2 : (0 : Int) ≤ (a : Int) ∧ (a : Int) ≤ (t.size : Int) ∧ (t.size : Int) ≤ (t.size : Int) := by omega
      have h3 : (outv + 1) * 16 ≤ 140737488355328 := by omega
      rw [if_pos h2, if_pos h3, hs, List.length_append, hD]
      simp only [Int.toNat_natCast]
      rfl
  | k + 1, i, outv, a, g, m, D, hi, hm, ha, ho, hD, hc, hr, hs => by
    obtain ⟨m, rfl⟩ : ∃ q, m = q + 1 := ⟨m - 1, by omega⟩
    have hz := ba_size t
    have hil : i < t.data.toList.length := by omega
    simp only [spec_l01Split.l0, spec_l01Split.b0]
    have h1 : (i : Int) < (t.size : Int) := by omega
    have h2 : (0 : Int) ≤ (i : Int) ∧ (i : Int) < (t.size : Int) := by omega
    have ew : IntKind.i64.wrap ((i : Int) + 1) = ((i + 1 : Nat) : Int) := by rw [wrap64_id (by omega) (by omega)]; omega
    simp only [h1, decide_true, if_true, h2, and_self, Int.toNat_natCast, ew, bt_at hil]
    by_cases h44 : t.data.toList[i] = 44
    · have hb : (((t.data.toList[i]).toNat : Int) == 44) = true := by rw [h44]; rfl
      have h3 : (0 : Int) ≤ (a : Int) ∧ (a : Int) ≤ (i : Int) ∧ (i : Int) ≤ (t.size : Int) := by omega
      have h4 : (outv + 1) * 16 ≤ 140737488355328 := by omega
      rw [if_pos hb, if_pos h3, if_pos h4]
      have hcut := cut_at ha hil
      rw [h44] at hcut
      refine split_loop K t ht k (i + 1) (outv + 1) (i + 1) _ m (D ++ [(t.extract a i).data.toList]) (by omega) (by omega) (Nat.le_refl _) (by omega) (by simp [hD]) ?_ (rep_snoc hD _ hr) ?_
      · rw [Nat.sub_self]; simp
      · rw [hs, hcut, sp_app, sp_one hc, ext_list, List.append_assoc]
    · have hb : ¬ (((t.data.toList[i]).toNat : Int) == 44) = true := fun e => h44 (by
        have := beq_iff_eq.1 e
        apply UInt8.toNat_inj.1
        show _ = 44
        omega)
      rw [if_neg hb]
      refine split_loop K t ht k (i + 1) outv a g m D (by omega) (by omega) (by omega) (by omega) hD ?_ hr hs
      rw [take_next ha hil, List.mem_append]
      intro h
      rcases h with h | h
      · exact hc h
      · exact h44 (List.mem_singleton.1 h).symm
theorem spec_split (K : Nat → (Nat → ByteArray) → Option ρ) (t : ByteArray) (ht : t.size ≤ 1000000) : ∃ G, rep G (sp t.data.toList) ∧ spec_l01Split 3000000 K t 44 = K (sp t.data.toList).length G := by
  have := ba_size t
  exact split_loop K t ht t.data.toList.length 0 0 0 (fun _ => ByteArray.empty) 3000000 [] (by omega) (by omega) (Nat.le_refl _) (Nat.le_refl _) rfl (by simp) (fun j x h => by simp at h) (by simp)
def dig (acc : Int) : List UInt8 → Int
  | [] => acc
  | c :: r => if (c.toNat : Int) < 48 ∨ (c.toNat : Int) > 57 then -1 else dig (acc * 10 + ((c.toNat : Int) - 48)) r
def numI (w : List UInt8) : Int :=
  if w.length = 0 then -1 else if w.length > 9 then -1 else if w.length > 1 ∧ w.head? = some 48 then -1 else dig 0 w
theorem num_l0 (K : Int → Option ρ) (s : ByteArray) (hs : s.data.toList.length ≤ 9) : ∀ (k i : Nat) (acc : Int) (m : Nat), i + k = s.data.toList.length → k < m → 0 ≤ acc → acc < 10 ^ i →
    spec_l01Number.l0 3000000 K s (fun ov3 => spec_l01Number.a0_0 3000000 K ov3) m acc (i : Int) = K (dig acc (s.data.toList.drop i))
  | 0, i, acc, m, hi, hm, h0, h1 => by
    obtain ⟨m, rfl⟩ : ∃ q, m = q + 1 := ⟨m - 1, by omega⟩
    have hz := ba_size s
    simp only [spec_l01Number.l0, spec_l01Number.b0]
    have g1 : ¬ (i : Int) < (s.size : Int) := by omega
    simp only [g1, decide_false, Bool.false_eq_true, if_false, spec_l01Number.a0_0]
    rw [List.drop_of_length_le (by omega)]; rfl
  | k + 1, i, acc, m, hi, hm, h0, h1 => by
    obtain ⟨m, rfl⟩ : ∃ q, m = q + 1 := ⟨m - 1, by omega⟩
    have hz := ba_size s
    have hil : i < s.data.toList.length := by omega
    have h9 : (10 : Int) ^ i ≤ 10 ^ 8 := by
      have : i ≤ 8 := by omega
      exact_mod_cast Nat.pow_le_pow_right (by omega) this
    have hb : ((s.data.toList[i]).toNat : Int) ≤ 255 := by have := (s.data.toList[i]).toNat_lt; omega
    simp only [spec_l01Number.l0, spec_l01Number.b0]
    have g1 : (i : Int) < (s.size : Int) := by omega
    have g2 : (0 : Int) ≤ (i : Int) ∧ (i : Int) < (s.size : Int) := by omega
    have ew : IntKind.i64.wrap ((i : Int) + 1) = ((i + 1 : Nat) : Int) := by rw [wrap64_id (by omega) (by omega)]; omega
    simp only [g1, decide_true, if_true, g2, and_self, Int.toNat_natCast, ew, bt_at hil]
    rw [drop_at hil]
    unfold dig
    by_cases hl : ((s.data.toList[i]).toNat : Int) < 48
    · simp only [hl, decide_true, if_true, true_or]
    · by_cases hg : ((s.data.toList[i]).toNat : Int) > 57
      · simp only [hl, hg, decide_false, decide_true, Bool.false_eq_true, if_false, if_true, or_true]
      · simp only [hl, hg, decide_false, Bool.false_eq_true, if_false, or_self]
        have hp : (10 : Int) ^ (i + 1) = 10 ^ i * 10 := Int.pow_succ ..
        rw [wrap8_id (by omega) (by omega), wrap64_id (x := acc * 10) (by omega) (by omega), wrap64_id (x := ((s.data.toList[i]).toNat : Int) - 48) (by omega) (by omega), wrap64_id (by omega) (by omega)]
        exact num_l0 K s hs k (i + 1) _ m (by omega) (by omega) (by omega) (by omega)
theorem num_l1 (K : Int → Option ρ) (s : ByteArray) (hs : s.data.toList.length ≤ 9) : ∀ (k i : Nat) (acc : Int) (m : Nat), i + k = s.data.toList.length → k < m → 0 ≤ acc → acc < 10 ^ i →
    spec_l01Number.l1 3000000 K s (fun ov3 => spec_l01Number.a1_0 3000000 K ov3) m acc (i : Int) = K (dig acc (s.data.toList.drop i))
  | 0, i, acc, m, hi, hm, h0, h1 => by
    obtain ⟨m, rfl⟩ : ∃ q, m = q + 1 := ⟨m - 1, by omega⟩
    have hz := ba_size s
    simp only [spec_l01Number.l1, spec_l01Number.b1]
    have g1 : ¬ (i : Int) < (s.size : Int) := by omega
    simp only [g1, decide_false, Bool.false_eq_true, if_false, spec_l01Number.a1_0]
    rw [List.drop_of_length_le (by omega)]; rfl
  | k + 1, i, acc, m, hi, hm, h0, h1 => by
    obtain ⟨m, rfl⟩ : ∃ q, m = q + 1 := ⟨m - 1, by omega⟩
    have hz := ba_size s
    have hil : i < s.data.toList.length := by omega
    have h9 : (10 : Int) ^ i ≤ 10 ^ 8 := by
      have : i ≤ 8 := by omega
      exact_mod_cast Nat.pow_le_pow_right (by omega) this
    have hb : ((s.data.toList[i]).toNat : Int) ≤ 255 := by have := (s.data.toList[i]).toNat_lt; omega
    simp only [spec_l01Number.l1, spec_l01Number.b1]
    have g1 : (i : Int) < (s.size : Int) := by omega
    have g2 : (0 : Int) ≤ (i : Int) ∧ (i : Int) < (s.size : Int) := by omega
    have ew : IntKind.i64.wrap ((i : Int) + 1) = ((i + 1 : Nat) : Int) := by rw [wrap64_id (by omega) (by omega)]; omega
    simp only [g1, decide_true, if_true, g2, and_self, Int.toNat_natCast, ew, bt_at hil]
    rw [drop_at hil]
    unfold dig
    by_cases hl : ((s.data.toList[i]).toNat : Int) < 48
    · simp only [hl, decide_true, if_true, true_or]
    · by_cases hg : ((s.data.toList[i]).toNat : Int) > 57
      · simp only [hl, hg, decide_false, decide_true, Bool.false_eq_true, if_false, if_true, or_true]
      · simp only [hl, hg, decide_false, Bool.false_eq_true, if_false, or_self]
        have hp : (10 : Int) ^ (i + 1) = 10 ^ i * 10 := Int.pow_succ ..
        rw [wrap8_id (by omega) (by omega), wrap64_id (x := acc * 10) (by omega) (by omega), wrap64_id (x := ((s.data.toList[i]).toNat : Int) - 48) (by omega) (by omega), wrap64_id (by omega) (by omega)]
        exact num_l1 K s hs k (i + 1) _ m (by omega) (by omega) (by omega) (by omega)
theorem spec_number (K : Int → Option ρ) (s : ByteArray) : spec_l01Number 3000000 K s = K (numI s.data.toList) := by
  have hz := ba_size s
  unfold spec_l01Number spec_l01Number.s numI
  by_cases h0 : s.data.toList.length = 0
  · have : ((s.size : Int) == 0) = true := by rw [beq_iff_eq]; omega
    rw [if_pos this, if_pos h0]
  · have g0 : ¬ ((s.size : Int) == 0) = true := by rw [beq_iff_eq]; omega
    rw [if_neg g0, if_neg h0]
    by_cases h9 : s.data.toList.length > 9
    · rw [if_pos (show decide ((s.size : Int) > 9) = true from decide_eq_true (by omega)), if_pos h9]
    · rw [if_neg (show ¬ decide ((s.size : Int) > 9) = true from fun e => by have := of_decide_eq_true e; omega), if_neg h9]
      have L0 := fun (m : Nat) (hm : s.data.toList.length < m) => num_l0 K s (by omega) s.data.toList.length 0 0 m (by omega) hm (by omega) (by simp)
      have L1 := fun (m : Nat) (hm : s.data.toList.length < m) => num_l1 K s (by omega) s.data.toList.length 0 0 m (by omega) hm (by omega) (by simp)
      rw [List.drop_zero] at L0 L1
      by_cases h1 : s.data.toList.length > 1
      · rw [if_pos (show decide ((s.size : Int) > 1) = true from decide_eq_true (by omega)), if_pos (show (0 : Int) ≤ 0 ∧ (0 : Int) < (s.size : Int) by omega), bt_at (show 0 < s.data.toList.length by omega)]
        have hh : s.data.toList.head? = some (s.data.toList[0]'(by omega)) := by rw [List.head?_eq_getElem?, List.getElem?_eq_getElem]
        by_cases h48 : s.data.toList[0]'(by omega) = 48
        · rw [if_pos (show (((s.data.toList[0]'(by omega)).toNat : Int) == 48) = true by rw [h48]; rfl), if_pos ⟨h1, by rw [hh, h48]⟩]
        · rw [if_neg, if_neg (fun e => h48 (by have := e.2; rw [hh] at this; exact Option.some.inj this))]
          · exact L0 3000000 (by omega)
          · intro e
            have := beq_iff_eq.1 e
            exact h48 (UInt8.toNat_inj.1 (by show _ = 48; omega))
      · rw [if_neg (show ¬ decide ((s.size : Int) > 1) = true from fun e => by have := of_decide_eq_true e; omega), if_neg (fun e => h1 e.1)]
        exact L1 3000000 (by omega)
theorem dig_ge : ∀ (l : List UInt8) (acc : Int), 0 ≤ acc → dig acc l = -1 ∨ acc ≤ dig acc l
  | [], acc, h => .inr (Int.le_refl _)
  | c :: r, acc, h => by
    unfold dig
    split
    · exact .inl rfl
    · rename_i hc
      rcases dig_ge r (acc * 10 + ((c.toNat : Int) - 48)) (by omega) with h1 | h1
      · exact .inl h1
      · exact .inr (by omega)
theorem u8_ofNat {k : Nat} (h : k < 256) : (UInt8.ofNat k).toNat = k := by
  rw [UInt8.toNat_ofNat']; omega
theorem u8_eq {c : UInt8} {k : Nat} (h : k < 256) (e : c.toNat = k) : UInt8.ofNat k = c := UInt8.toNat_inj.1 (by rw [u8_ofNat h, e])
theorem itoa_lo' {x : Nat} (h : x < 10) : (itoaS (x : Int)).data.toList = [UInt8.ofNat (48 + x)] := by rw [itoa_lo h]
theorem itoa_hi' {x : Nat} (h : 10 ≤ x) (h' : x < 100) : (itoaS (x : Int)).data.toList = [UInt8.ofNat (48 + x / 10), UInt8.ofNat (48 + x % 10)] := by rw [itoa_hi h h', ba_app]; rfl
theorem num_itoa {w : List UInt8} (h : 0 ≤ numI w) (h' : numI w < 100) : w = (itoaS (numI w)).data.toList := by
  match w with
  | [] => unfold numI at h; simp at h
  | [a] =>
    have e : numI [a] = dig 0 [a] := by unfold numI; simp
    rw [e] at h h' ⊢
    simp only [dig] at h h' ⊢
    split at h
    · omega
    · rename_i hc
      have e2 : (0 : Int) * 10 + ((a.toNat : Int) - 48) = ((a.toNat - 48 : Nat) : Int) := by omega
      rw [if_neg hc, e2, itoa_lo' (by omega), u8_eq (c := a) (by omega) (by omega)]
  | [a, b] =>
    by_cases h48 : a = 48
    · exfalso
      unfold numI at h; simp [h48] at h
    · have ha : a.toNat ≠ 48 := fun e => h48 (UInt8.toNat_inj.1 (by rw [e]; rfl))
      have e : numI [a, b] = dig 0 [a, b] := by unfold numI; simp [h48]
      rw [e] at h h' ⊢
      simp only [dig] at h h' ⊢
      split at h
      · omega
      · rename_i hc
        split at h
        · omega
        · rename_i hc2
          have e2 : ((0 : Int) * 10 + ((a.toNat : Int) - 48)) * 10 + ((b.toNat : Int) - 48) = (((a.toNat - 48) * 10 + (b.toNat - 48) : Nat) : Int) := by omega
          rw [if_neg hc, if_neg hc2, e2, itoa_hi' (by omega) (by omega), u8_eq (c := a) (by omega) (by omega), u8_eq (c := b) (by omega) (by omega)]
  | a :: b :: c :: r =>
    exfalso
    by_cases h48 : a = 48
    · unfold numI at h
      simp [h48] at h
    · have ha : a.toNat ≠ 48 := fun e => h48 (UInt8.toNat_inj.1 (by rw [e]; rfl))
      have e : numI (a :: b :: c :: r) = -1 ∨ numI (a :: b :: c :: r) = dig 0 (a :: b :: c :: r) := by
        unfold numI
        rw [if_neg (by simp)]
        split
        · exact .inl rfl
        · rw [if_neg (by simp [h48])]; exact .inr rfl
      rcases e with e | e
      · omega
      · rw [e] at h h'
        simp only [dig] at h h'
        split at h
        · omega
        · rename_i c1
          rw [if_neg c1] at h'
          split at h
          · omega
          · rename_i c2
            rw [if_neg c2] at h'
            split at h
            · omega
            · rename_i c3
              rw [if_neg c3] at h'
              rcases dig_ge r ((((0 : Int) * 10 + ((a.toNat : Int) - 48)) * 10 + ((b.toNat : Int) - 48)) * 10 + ((c.toNat : Int) - 48)) (by omega) with q | q <;> omega
theorem itoa_num {x : Nat} (h : x < 100) : numI (itoaS (x : Int)).data.toList = x := by
  by_cases h1 : x < 10
  · have e := u8_ofNat (k := 48 + x) (by omega)
    rw [itoa_lo' h1]
    unfold numI
    simp only [List.length_cons, List.length_nil, dig, e]
    rw [if_neg (by omega), if_neg (by omega), if_neg (by omega), if_neg (by omega)]
    omega
  · have e := u8_ofNat (k := 48 + x / 10) (by omega)
    have e2 := u8_ofNat (k := 48 + x % 10) (by omega)
    have ne : UInt8.ofNat (48 + x / 10) ≠ 48 := fun q => by
      have := congrArg UInt8.toNat q
      rw [e] at this
      have h48 : (48 : UInt8).toNat = 48 := rfl
      omega
    rw [itoa_hi' (by omega) h]
    unfold numI
    simp only [List.length_cons, List.length_nil, dig, e, e2]
    rw [if_neg (by omega), if_neg (by omega), if_neg (fun q => ne (Option.some.inj q.2)), if_neg (by omega), if_neg (by omega)]
    omega
theorem itoa_pu {x : Nat} (h : x < 100) : Lib.parseUintB 8 (itoaS (x : Int)).data.toList = .ok x := by
  unfold Lib.parseUintB
  by_cases h1 : x < 10
  · have e := u8_ofNat (k := 48 + x) (by omega)
    rw [itoa_lo' h1, if_neg (by simp)]
    simp only [Lib.parseUintM, e]
    rw [if_pos (by omega), if_neg (by omega), if_neg (by omega)]
    congr 1; omega
  · have e := u8_ofNat (k := 48 + x / 10) (by omega)
    have e2 := u8_ofNat (k := 48 + x % 10) (by omega)
    rw [itoa_hi' (by omega) h, if_neg (by simp)]
    simp only [Lib.parseUintM, e, e2]
    rw [if_pos (by omega), if_neg (by omega), if_neg (by omega), if_pos (by omega), if_neg (by omega), if_neg (by omega)]
    congr 1; omega
theorem itoa_comma {x : Nat} (h : x < 100) : (44 : UInt8) ∉ (itoaS (x : Int)).data.toList := by
  have ne : ∀ k, k < 10 → (44 : UInt8) ≠ UInt8.ofNat (48 + k) := fun k hk q => by
    have := congrArg UInt8.toNat q
    rw [u8_ofNat (by omega)] at this
    have h44 : (44 : UInt8).toNat = 44 := rfl
    omega
  by_cases h1 : x < 10
  · rw [itoa_lo' h1]
    intro q
    exact ne x h1 (List.mem_singleton.1 q)
  · rw [itoa_hi' (by omega) h]
    intro q
    rcases List.mem_cons.1 q with q | q
    · exact ne (x / 10) (by omega) q
    · exact ne (x % 10) (by omega) (List.mem_singleton.1 q)
theorem sp_txt {S : Nat → ByteArray} : ∀ {n : Nat}, 1 ≤ n → (∀ j, j < n → (44 : UInt8) ∉ (S j).data.toList) → sp (txt S n).data.toList = (List.range n).map fun j => (S j).data.toList
  | 0, h, _ => by omega
  | 1, _, h => by
    have : txt S 1 = S 0 := ba_nil _
    rw [this, sp_one (h 0 (by omega))]; rfl
  | n + 2, _, h => by
    have ih := sp_txt (S := S) (n := n + 1) (by omega) fun j hj => h j (by omega)
    have e : (txt S (n + 2)).data.toList = (txt S (n + 1)).data.toList ++ 44 :: (S (n + 1)).data.toList := by
      show (if 0 < n + 1 then (txt S (n + 1) ++ (ByteArray.mk #[44])) ++ S (n + 1) else txt S (n + 1) ++ S (n + 1)).data.toList = _
      rw [if_pos (by omega), ba_app, ba_app]; simp
    rw [e, sp_app, ih, sp_one (h (n + 1) (by omega)), List.range_succ (n := n + 1), List.map_append]
    rfl
def tells (t : ByteArray) (n : Nat) (p : Int) (x : Nat → Nat) : Prop := (∀ i, i < n → (x i : Int) < p) ∧ sp t.data.toList = (List.range n).map fun j => (itoaS (x j : Int)).data.toList
def vx (n : Nat) (x : Nat → Nat) : Nat → Int := fun z => if z < n then (x z : Int) else 0
theorem tells_at {t : ByteArray} {n : Nat} {p : Int} {x : Nat → Nat} (h : tells t n p x) {G : Nat → ByteArray} (hG : rep G (sp t.data.toList)) {j : Nat} (hj : j < n) : G j = itoaS (x j : Int) :=
  ba_ext (hG j _ (by rw [h.2, List.getElem?_map, List.getElem?_range hj]; rfl))
theorem fill_next {f : Nat → Int} {i : Nat} {a : Int} (h : a = f i) : upd (fun z => if z < i then f z else 0) i a = fun z => if z < i + 1 then f z else 0 := by
  funext z
  unfold upd
  by_cases e : z = i
  · subst e; simp [h]
  · rw [if_neg e]
    show (if z < i then f z else 0) = _
    by_cases e2 : z < i
    · rw [if_pos e2, if_pos (by omega)]
    · rw [if_neg e2, if_neg (by omega)]
theorem read_bad (K : (Nat → Int) → Bool → Option ρ) {p : Int} (hp : 2 ≤ p) (hp' : p ≤ 31) (n : Nat) (hn : n ≤ 8) (G : Nat → ByteArray) (out : (Nat → Int) → Option ρ) : ∀ (k i m : Nat) (g : Nat → Int), i + k = n → k < m →
    (∃ j, i ≤ j ∧ j < n ∧ ¬ (0 ≤ numI (G j).data.toList ∧ numI (G j).data.toList ≤ p - 1)) → spec_l01Read.l0 3000000 K p n G out m (i : Int) g = K (fun _ => 0) false
  | 0, i, m, g, hi, hm, ⟨j, h1, h2, h3⟩ => by omega
  | k + 1, i, m, g, hi, hm, ⟨j, h1, h2, h3⟩ => by
    obtain ⟨m, rfl⟩ : ∃ q, m = q + 1 := ⟨m - 1, by omega⟩
    simp only [spec_l01Read.l0, spec_l01Read.b0]
    have g1 : (i : Int) < (n : Int) := by omega
    have g2 : (0 : Int) ≤ (i : Int) ∧ (i : Int) < (n : Int) := by omega
    have g3 : (0 : Int) ≤ (i : Int) ∧ (i : Int) < 8 := by omega
    have ew : IntKind.i64.wrap (p - 1) = p - 1 := wrap64_id (by omega) (by omega)
    simp only [g1, decide_true, if_true, g2, g3, and_self, Int.toNat_natCast, Nat.mul_one, Nat.zero_add, spec_number, spec_in, ew, nx (show i < 100000 by omega)]
    by_cases hc : 0 ≤ numI (G i).data.toList ∧ numI (G i).data.toList ≤ p - 1
    · simp only [hc.1, hc.2, decide_true, Bool.and_self, Bool.not_true, Bool.false_eq_true, if_false]
      refine read_bad K hp hp' n hn G out k (i + 1) m _ (by omega) (by omega) ⟨j, ?_, h2, h3⟩
      by_cases e : i = j
      · subst e; exact absurd hc h3
      · omega
    · have : (decide (0 ≤ numI (G i).data.toList) && decide (numI (G i).data.toList ≤ p - 1)) = false := by
        simpa [-not_and, Classical.not_and_iff_not_or_not, Decidable.or_iff_not_imp_left] using hc
      simp only [this, Bool.not_false, if_true]
theorem spec_read (K : (Nat → Int) → Bool → Option ρ) {p : Int} (hp : 2 ≤ p) (hp' : p ≤ 31) {n : Nat} (h1 : 1 ≤ n) (hn : n ≤ 8) (t : ByteArray) (ht : t.size ≤ 1000000) :
    (∀ x, tells t n p x → spec_l01Read 3000000 K p n t = K (vx n x) true) ∧ ((¬ ∃ x, tells t n p x) → spec_l01Read 3000000 K p n t = K (fun _ => 0) false) := by
  have ew : IntKind.i64.wrap (p - 1) = p - 1 := wrap64_id (by omega) (by omega)
  obtain ⟨G, hG, e⟩ := spec_split (fun rv3 rv4 => (if ((rv3 : Int) != (n : Int)) = true then (K (fun _ => 0) false) else (spec_l01Read.l0 3000000 K p rv3 rv4 (fun ov9 => (spec_l01Read.a0_0 3000000 K ov9)) 3000000 0 (fun _ => 0)))) t ht
  have e' : spec_l01Read 3000000 K p n t = _ := e
  rw [e']
  constructor
  · intro x hx
    have hl : (sp t.data.toList).length = n := by rw [hx.2]; simp
    rw [hl, if_neg (by simp)]
    refine loop_at (n := n) (fun i => fun z => if z < i then (x z : Int) else 0) (by funext z; simp) (fun m i hi => ?_) (fun m => ?_) (by omega)
    · simp only [spec_l01Read.l0, spec_l01Read.b0]
      have g1 : (i : Int) < (n : Int) := by omega
      have g2 : (0 : Int) ≤ (i : Int) ∧ (i : Int) < (n : Int) := by omega
      have g3 : (0 : Int) ≤ (i : Int) ∧ (i : Int) < 8 := by omega
      have hxi := hx.1 i hi
      have g4 : (0 : Int) ≤ (x i : Int) := by omega
      have g5 : (x i : Int) ≤ p - 1 := by omega
      simp only [g1, decide_true, if_true, g2, g3, and_self, Int.toNat_natCast, Nat.mul_one, Nat.zero_add, spec_number, spec_in, ew, tells_at hx hG hi, itoa_num (show x i < 100 by omega), g4, g5, Bool.and_self, Bool.not_true, Bool.false_eq_true, if_false, nx (show i < 100000 by omega)]
      rw [fill_next (f := fun z => (x z : Int)) (wrap8_id (by omega) (by omega))]
    · simp only [spec_l01Read.l0, spec_l01Read.b0, Int.lt_irrefl, decide_false, Bool.false_eq_true, if_false, spec_l01Read.a0_0]
      rfl
  · intro hno
    by_cases hl : (sp t.data.toList).length = n
    · rw [hl, if_neg (by simp)]
      refine read_bad K hp hp' n hn G _ n 0 3000000 _ (by omega) (by omega) ?_
      refine Classical.byContradiction fun hc => hno ⟨fun j => (numI (G j).data.toList).toNat, ?_, ?_⟩
      · intro i hi
        have : 0 ≤ numI (G i).data.toList ∧ numI (G i).data.toList ≤ p - 1 := Classical.byContradiction fun q => hc ⟨i, by omega, hi, q⟩
        show (((numI (G i).data.toList).toNat : Nat) : Int) < p
        omega
      · refine List.ext_getElem? fun j => ?_
        by_cases hj : j < n
        · have : 0 ≤ numI (G j).data.toList ∧ numI (G j).data.toList ≤ p - 1 := Classical.byContradiction fun q => hc ⟨j, by omega, hj, q⟩
          rw [List.getElem?_map, List.getElem?_range hj, List.getElem?_eq_getElem (by omega)]
          show some _ = some _
          refine congrArg some ?_
          rw [← hG j _ (List.getElem?_eq_getElem (by omega))]
          show _ = (itoaS (((numI (G j).data.toList).toNat : Nat) : Int)).data.toList
          rw [Int.toNat_of_nonneg this.1]
          exact num_itoa this.1 (by omega)
        · rw [List.getElem?_eq_none (by omega), List.getElem?_eq_none (by simp; omega)]
    · rw [if_pos (by simp; omega)]
theorem pv_bad (K : (Nat → Int) → Int → Option ρ) (n : Nat) (hn : n ≤ 1000001) (w : Nat → ByteArray) (hw : ∀ j, j < n → (w j).size ≤ 1000000) (out : (Nat → Int) → Option ρ) : ∀ (k i m : Nat) (g : Nat → Int), i + k = n → k < m →
    (∃ j, i ≤ j ∧ j < n ∧ (puE (w j) = false ∨ 8 ≤ j)) → impl_ParseVector.l0 3000000 K n w out m (i : Int) g = K (fun _ => 0) 6
  | 0, i, m, g, hi, hm, ⟨j, h1, h2, h3⟩ => by omega
  | k + 1, i, m, g, hi, hm, ⟨j, h1, h2, h3⟩ => by
    obtain ⟨m, rfl⟩ : ∃ q, m = q + 1 := ⟨m - 1, by omega⟩
    simp only [impl_ParseVector.l0, impl_ParseVector.b0]
    have g1 : (i : Int) < (n : Int) := by omega
    have g2 : (0 : Int) ≤ (i : Int) ∧ (i : Int) < (n : Int) := by omega
    have ew : IntKind.i64.wrap ((i : Int) + 1) = ((i + 1 : Nat) : Int) := by rw [wrap64_id (by omega) (by omega)]; omega
    have g3 : (w i).size ≤ 281474976710656 := by have := hw i (by omega); omega
    simp only [g1, decide_true, if_true, g2, and_self, Int.toNat_natCast, Nat.mul_one, Nat.zero_add, strconv_ParseUint, g3, true_and, ew]
    cases hc : puE (w i) with
    | false => simp only [Bool.not_false, if_true]
    | true =>
      simp only [Bool.not_true, Bool.false_eq_true, if_false]
      by_cases h8 : 8 ≤ i
      · have : (i : Int) ≥ 8 := by omega
        simp only [this, decide_true, if_true]
      · have g4 : ¬ (i : Int) ≥ 8 := by omega
        have g5 : (0 : Int) ≤ (i : Int) ∧ (i : Int) < 8 := by omega
        simp only [g4, decide_false, Bool.false_eq_true, if_false, g5, and_self, if_true]
        refine pv_bad K n hn w hw out k (i + 1) m _ (by omega) (by omega) ⟨j, ?_, h2, h3⟩
        by_cases e : i = j
        · subst e
          rcases h3 with h3 | h3
          · rw [hc] at h3; cases h3
          · exact absurd h3 h8
        · omega
theorem pv_good (K : (Nat → Int) → Int → Option ρ) (n : Nat) (hn : n ≤ 8) (w : Nat → ByteArray) (hw : ∀ j, j < n → (w j).size ≤ 1000000) (hg : ∀ j, j < n → puE (w j) = true) (out : (Nat → Int) → Option ρ) :
    impl_ParseVector.l0 3000000 K n w out 3000000 0 (fun _ => 0) = out (fun z => if z < n then IntKind.u8.wrap (puV (w z)) else 0) := by
  refine loop_at (n := n) (fun i => fun z => if z < i then IntKind.u8.wrap (puV (w z)) else 0) (by funext z; simp) (fun m i hi => ?_) (fun m => ?_) (by omega)
  · simp only [impl_ParseVector.l0, impl_ParseVector.b0]
    have g1 : (i : Int) < (n : Int) := by omega
    have g2 : (0 : Int) ≤ (i : Int) ∧ (i : Int) < (n : Int) := by omega
    have g3 : (w i).size ≤ 281474976710656 := by have := hw i (by omega); omega
    have g4 : ¬ (i : Int) ≥ 8 := by omega
    have g5 : (0 : Int) ≤ (i : Int) ∧ (i : Int) < 8 := by omega
    simp only [g1, decide_true, if_true, g2, and_self, Int.toNat_natCast, Nat.mul_one, Nat.zero_add, strconv_ParseUint, g3, true_and, hg i hi, Bool.not_true, g4, decide_false, Bool.false_eq_true, if_false, g5, nx (show i < 100000 by omega)]
    rw [fill_next (f := fun z => IntKind.u8.wrap (puV (w z))) rfl]
  · simp only [impl_ParseVector.l0, impl_ParseVector.b0, Int.lt_irrefl, decide_false, Bool.false_eq_true, if_false]
theorem sp_len : ∀ l : List UInt8, (sp l).length ≤ l.length + 1
  | [] => Nat.le_refl 1
  | c :: r => by
    have ih := sp_len r
    simp only [sp]
    split
    · simp; omega
    · cases hs : sp r with
      | nil => simp
      | cons h t => rw [hs] at ih; simp at ih ⊢; omega
theorem sp_part : ∀ (l : List UInt8), ∀ u ∈ sp l, u.length ≤ l.length
  | [], u, h => by simp [sp] at h; subst h; exact Nat.le_refl _
  | c :: r, u, h => by
    have ih := sp_part r
    simp only [sp] at h
    split at h
    · rcases List.mem_cons.1 h with h | h
      · subst h; simp
      · have := ih u h; simp; omega
    · cases hs : sp r with
      | nil => exact absurd hs (sp_ne r)
      | cons a q =>
        rw [hs] at h ih
        rcases List.mem_cons.1 h with h | h
        · subst h; have := ih a (by simp); simp; omega
        · have := ih u (by simp [h]); simp; omega
theorem wrap8_rng (x : Int) : 0 ≤ IntKind.u8.wrap x ∧ IntKind.u8.wrap x ≤ 255 := by
  simp only [IntKind.wrap, IntKind.bits, IntKind.signed]
  first | omega | (simp; omega)
theorem impl_pv (K : (Nat → Int) → Int → Option ρ) {p : Int} (hp : 2 ≤ p) (hp' : p ≤ 31) {n : Nat} (h1 : 1 ≤ n) (hn : n ≤ 8) (hs : sizB p n = true) (t : ByteArray) (ht : t.size ≤ 1000000) :
    (∀ x, tells t n p x → impl_ParseVector 3000000 K p n t = K (vx n x) 0) ∧ ((¬ ∃ x, tells t n p x) → impl_ParseVector 3000000 K p n t = K (fun _ => 0) 6) := by
  have hz := ba_size t
  have hz0 : vecB p n (fun _ => 0) = true := by
    unfold vecB
    refine allN_true.2 fun j _ _ => ?_
    have : ¬ IntKind.i64.wrap (0 : Int) ≥ p := by rw [wrap64_id (by omega) (by omega)]; omega
    simp [this]
  have hG := rep_split t
  have hN := splitN_len t
  have hl1 := sp_len t.data.toList
  have hsz : ∀ j, j < (sp t.data.toList).length → (splitW t (ByteArray.mk #[44]) j).size ≤ 1000000 := fun j hj => by
    have e := hG j _ (List.getElem?_eq_getElem hj)
    rw [ba_size, e]
    have := sp_part t.data.toList _ (List.getElem_mem hj)
    omega
  have e0 : impl_ParseVector 3000000 K p n t = impl_ParseVector.l0 3000000 K (sp t.data.toList).length (splitW t (ByteArray.mk #[44])) (fun ov12 => impl_ParseVector.a0_0 3000000 K p n t ov12) 3000000 0 (fun _ => 0) := by
    rw [impl_ParseVector.opq]; unfold impl_ParseVector.bdy impl_ParseVector.s
    simp only [impl_isVector, hs, hz0, Bool.and_self, Bool.not_true, Bool.false_eq_true, if_false, strings_Split]
    rw [if_pos (show t.size < 4294967281 ∧ 1 ≤ (ByteArray.mk #[44]).size from ⟨by omega, Nat.le_refl 1⟩), hN]
  rw [e0]
  constructor
  · intro x hx
    have hl : (sp t.data.toList).length = n := by rw [hx.2]; simp
    have x100 : ∀ j, j < n → x j < 100 := fun j hj => by have := hx.1 j hj; omega
    have hw : ∀ j, j < n → splitW t (ByteArray.mk #[44]) j = itoaS (x j : Int) := fun j hj => tells_at hx hG hj
    have hpu : ∀ j, j < n → puE (splitW t (ByteArray.mk #[44]) j) = true := fun j hj => by unfold puE; rw [hw j hj, itoa_pu (x100 j hj)]
    have hpv : ∀ j, j < n → puV (splitW t (ByteArray.mk #[44]) j) = (x j : Int) := fun j hj => by unfold puV; rw [hw j hj, itoa_pu (x100 j hj)]
    rw [hl] at hsz ⊢
    rw [pv_good K n hn _ hsz hpu]
    have ev : (fun z => if z < n then IntKind.u8.wrap (puV (splitW t (ByteArray.mk #[44]) z)) else 0) = vx n x := by
      funext z
      unfold vx
      by_cases hzn : z < n
      · have := x100 z hzn
        rw [if_pos hzn, if_pos hzn, hpv z hzn, wrap8_id (by omega) (by omega)]
      · rw [if_neg hzn, if_neg hzn]
    simp only [ev, impl_ParseVector.a0_0, impl_isVector, hs, Bool.true_and]
    have hv : vecB p n (vx n x) = true := by
      unfold vecB
      refine allN_true.2 fun j _ hj => ?_
      unfold vx
      by_cases hjn : j < n
      · have q := hx.1 j hjn
        rw [if_pos hjn, wrap64_id (by omega) (by omega)]
        have q1 : ¬ (x j : Int) ≥ p := by omega
        have q2 : ¬ (j : Int) ≥ (n : Int) := by omega
        simp [q1, q2]
      · have q1 : ¬ IntKind.i64.wrap (0 : Int) ≥ p := by rw [wrap64_id (by omega) (by omega)]; omega
        rw [if_neg hjn]
        simp [q1]
    have hw8 : ∀ i, i < 8 → ∃ y : Nat, vx n x i = (y : Int) ∧ y < 100 := fun i hi => by
      unfold vx
      by_cases hin : i < n
      · exact ⟨x i, if_pos hin, x100 i hin⟩
      · exact ⟨0, if_neg hin, by omega⟩
    simp only [hv, Bool.not_true, Bool.false_eq_true, if_false]
    rw [impl_text _ h1 hn hw8]
    have et : txt (fun i => itoaS (vx n x i)) n = t := by
      refine ba_ext (sp_inj ?_)
      have c : txt (fun i => itoaS (vx n x i)) n = txt (fun i => itoaS (x i : Int)) n := txt_congr fun j hj => by
        show itoaS (vx n x j) = _
        unfold vx; rw [if_pos hj]
      rw [c, sp_txt h1 fun j hj => itoa_comma (x100 j hj), hx.2]
    rw [et]
    have rfls : strEq t t = true := by unfold strEq; simp
    simp only [rfls, Bool.not_true, Bool.false_eq_true, if_false]
  · intro hno
    by_cases hb : ∃ j, 0 ≤ j ∧ j < (sp t.data.toList).length ∧ (puE (splitW t (ByteArray.mk #[44]) j) = false ∨ 8 ≤ j)
    · exact pv_bad K _ (by omega) _ hsz _ _ 0 3000000 _ (Nat.zero_add _) (by omega) hb
    · have h8 : (sp t.data.toList).length ≤ 8 := by
        refine Classical.byContradiction fun q => hb ⟨8, by omega, by omega, .inr (Nat.le_refl _)⟩
      have hpu : ∀ j, j < (sp t.data.toList).length → puE (splitW t (ByteArray.mk #[44]) j) = true := fun j hj => by
        cases hc : puE (splitW t (ByteArray.mk #[44]) j) with
        | true => rfl
        | false => exact absurd ⟨j, Nat.zero_le _, hj, .inl hc⟩ hb
      rw [pv_good K _ h8 _ hsz hpu]
      generalize hv0 : (fun z => if z < (sp t.data.toList).length then IntKind.u8.wrap (puV (splitW t (ByteArray.mk #[44]) z)) else 0) = v
      have hr : ∀ z, 0 ≤ v z ∧ v z ≤ 255 := fun z => by
        subst hv0
        show 0 ≤ (if z < _ then IntKind.u8.wrap _ else (0 : Int)) ∧ (if z < _ then IntKind.u8.wrap _ else (0 : Int)) ≤ 255
        split
        · exact wrap8_rng _
        · omega
      simp only [impl_ParseVector.a0_0, impl_isVector, hs, Bool.true_and]
      by_cases hv : vecB p n v = true
      · have hlt : ∀ i, i < 8 → v i < p := fun i hi => by
          have hv := hv
          unfold vecB at hv
          have q := allN_true.1 hv i (by omega) (by omega)
          simp only [Bool.and_eq_true, Bool.not_eq_true', decide_eq_false_iff_not] at q
          have q1 := q.1
          have := hr i
          rw [wrap64_id (by omega) (by omega)] at q1
          omega
        have hw8 : ∀ i, i < 8 → ∃ y : Nat, v i = (y : Int) ∧ y < 100 := fun i hi => ⟨(v i).toNat, by have := hr i; omega, by have := hlt i hi; omega⟩
        simp only [hv, Bool.not_true, Bool.false_eq_true, if_false]
        rw [impl_text _ h1 hn hw8]
        cases hq : strEq (txt (fun i => itoaS (v i)) n) t with
        | false => simp only [Bool.not_false, if_true]
        | true =>
          exfalso
          have et := strEq_eq hq
          refine hno ⟨fun j => (v j).toNat, fun i hi => ?_, ?_⟩
          · have := hlt i (by omega)
            have := hr i
            show (((v i).toNat : Nat) : Int) < p
            omega
          · have ej : ∀ j, itoaS (v j) = itoaS (((v j).toNat : Nat) : Int) := fun j => by rw [Int.toNat_of_nonneg (hr j).1]
            rw [← et]
            have hcm : ∀ j, j < n → (44 : UInt8) ∉ ((fun i => itoaS (v i)) j).data.toList := fun j hj => by
              show (44 : UInt8) ∉ (itoaS (v j)).data.toList
              rw [ej j]
              exact itoa_comma (by have := hlt j (by omega); omega)
            rw [sp_txt h1 hcm]
            refine List.map_congr_left fun j _ => ?_
            show (itoaS (v j)).data.toList = _
            rw [ej j]
      · have hv' : vecB p n v = false := by simpa using hv
        simp only [hv', Bool.not_false, if_true]
end
end Go.Proofs.YtoeailachidcdaaGreatDoor.H
namespace Go.Proofs.YtoeailachidcdaaGreatDoor.H
open Go Go.RowKit Go.Proofs.YtoeailachidcdaaGreatDoor.Hg
set_option linter.unusedVariables false
set_option linter.unusedSimpArgs false
def Cg (p : Int) (n : Nat) (v w : Nat → Int) : Prop := ∀ i, i < n → p ∣ v i - w i
theorem Cg.refl {p : Int} {n : Nat} {v : Nat → Int} : Cg p n v v := fun i _ => by rw [Int.sub_self]; exact Int.dvd_zero _
theorem Cg.symm {p : Int} {n : Nat} {v w : Nat → Int} (h : Cg p n v w) : Cg p n w v := fun i hi => by
  obtain ⟨t, e⟩ := h i hi; exact ⟨-t, by rw [Int.mul_neg, ← e]; omega⟩
theorem Cg.trans {p : Int} {n : Nat} {u v w : Nat → Int} (h : Cg p n u v) (g : Cg p n v w) : Cg p n u w := fun i hi => by
  obtain ⟨t, e⟩ := h i hi; obtain ⟨s, f⟩ := g i hi; exact ⟨t + s, by rw [Int.mul_add, ← e, ← f]; omega⟩
theorem Cg.add {p : Int} {n : Nat} {v w v' w' : Nat → Int} (h : Cg p n v v') (g : Cg p n w w') : Cg p n (fun i => v i + w i) (fun i => v' i + w' i) := fun i hi => by
  obtain ⟨t, e⟩ := h i hi; obtain ⟨s, f⟩ := g i hi; exact ⟨t + s, by simp only [Int.mul_add, ← e, ← f]; omega⟩
theorem Cg.mul {p : Int} {n : Nat} {v v' : Nat → Int} (a : Int) (h : Cg p n v v') : Cg p n (fun i => a * v i) (fun i => a * v' i) := fun i hi => by
  obtain ⟨t, e⟩ := h i hi; exact ⟨a * t, by simp only; rw [← Int.mul_sub, e, Int.mul_left_comm]⟩
theorem Cg.of_eq {p : Int} {n : Nat} {v w : Nat → Int} (h : ∀ i, i < n → v i = w i) : Cg p n v w := fun i hi => by rw [h i hi, Int.sub_self]; exact Int.dvd_zero _
theorem Cg.mod {p : Int} {n : Nat} {v : Nat → Int} : Cg p n (fun i => v i % p) v := fun i _ => by
  exact ⟨-(v i / p), by have := Int.emod_add_mul_ediv (v i) p; rw [Int.mul_neg]; simp only; omega⟩
theorem Cg.eq_of {p : Int} {n : Nat} {v w : Nat → Int} (h : Cg p n v w) (hv : ∀ i, i < n → 0 ≤ v i ∧ v i < p) (hw : ∀ i, i < n → 0 ≤ w i ∧ w i < p) : ∀ i, i < n → v i = w i := fun i hi => by
  have h1 := Int.emod_emod_of_dvd (v i) (Int.dvd_refl p)
  have h2 := Int.emod_eq_emod_iff_emod_sub_eq_zero.2 (Int.emod_eq_zero_of_dvd (h i hi))
  rw [Int.emod_eq_of_lt (hv i hi).1 (hv i hi).2, Int.emod_eq_of_lt (hw i hi).1 (hw i hi).2] at h2
  exact h2
inductive Sp (p : Int) (n : Nat) (G : (Nat → Int) → Prop) : (Nat → Int) → Prop
  | zero {v : Nat → Int} (h : Cg p n v fun _ => 0) : Sp p n G v
  | add {v w r : Nat → Int} (a : Int) (hv : Sp p n G v) (hr : G r) (h : Cg p n w fun i => v i + a * r i) : Sp p n G w
theorem Sp.cg {p : Int} {n : Nat} {G : (Nat → Int) → Prop} {v w : Nat → Int} (h : Sp p n G v) (g : Cg p n w v) : Sp p n G w := by
  cases h with
  | zero h => exact .zero (g.trans h)
  | add a hv hr h => exact .add a hv hr (g.trans h)
theorem Sp.of {p : Int} {n : Nat} {G : (Nat → Int) → Prop} {r : Nat → Int} (h : G r) : Sp p n G r := .add 1 (.zero .refl) h (Cg.of_eq fun i _ => by simp)
theorem Sp.plus {p : Int} {n : Nat} {G : (Nat → Int) → Prop} {v w : Nat → Int} (h : Sp p n G v) (g : Sp p n G w) : Sp p n G fun i => v i + w i := by
  induction g with
  | zero g => exact h.cg fun i hi => by obtain ⟨t, e⟩ := g i hi; exact ⟨t, by rw [← e]; show _ - _ = _ - (0 : Int); omega⟩
  | add a hv hr g ih => exact .add a ih hr ((Cg.refl.add g).trans (Cg.of_eq fun i _ => by omega))
theorem Sp.times {p : Int} {n : Nat} {G : (Nat → Int) → Prop} {v : Nat → Int} (a : Int) (h : Sp p n G v) : Sp p n G fun i => a * v i := by
  induction h with
  | zero h => exact .zero ((h.mul a).trans (Cg.of_eq fun i _ => by simp))
  | add b hv hr h ih => exact .add (a * b) ih hr ((h.mul a).trans (Cg.of_eq fun i _ => by simp only [Int.mul_add, Int.mul_assoc]))
theorem Sp.mono {p : Int} {n : Nat} {G H : (Nat → Int) → Prop} {v : Nat → Int} (h : Sp p n G v) (g : ∀ r, G r → Sp p n H r) : Sp p n H v := by
  induction h with
  | zero h => exact .zero h
  | add b hv hr h ih => exact (ih.plus ((g _ hr).times b)).cg h
theorem Sp.sum {p : Int} {n : Nat} {G : (Nat → Int) → Prop} {f : Nat → Nat → Int} {c : Nat → Int} : ∀ {m : Nat}, (∀ k, k < m → Sp p n G (f k)) → Sp p n G fun i => sumN (fun k => c k * f k i) m
  | 0, _ => .zero .refl
  | m + 1, h => (Sp.sum (m := m) fun k hk => h k (by omega)).plus ((h m (by omega)).times (c m))
def Rw (m : Nat) (R : Nat → Nat → Int) : (Nat → Int) → Prop := fun r => ∃ k, k < m ∧ r = R k
structure Red (p : Int) (n m : Nat) (R : Nat → Nat → Int) (l : Nat → Nat) : Prop where
  inn : ∀ k, k < m → l k < n
  up : ∀ j k, j < k → k < m → l j < l k
  one : ∀ k, k < m → p ∣ R k (l k) - 1
  oth : ∀ j k, j < m → k < m → j ≠ k → p ∣ R k (l j)
  low : ∀ k i, k < m → i < l k → p ∣ R k i
variable {p : Int} {n m m' : Nat} {R R' : Nat → Nat → Int} {l l' : Nat → Nat}
theorem Red.le (h : Red p n m R l) {j k : Nat} (hj : j ≤ k) (hk : k < m) : l j ≤ l k := by
  by_cases e : j = k
  · subst e; exact Nat.le_refl _
  · exact Nat.le_of_lt (h.up j k (by omega) hk)
theorem Red.inj (h : Red p n m R l) {j k : Nat} (hj : j < m) (hk : k < m) (e : l j = l k) : j = k := by
  by_cases h1 : j < k
  · have := h.up j k h1 hk; omega
  · by_cases h2 : k < j
    · have := h.up k j h2 hj; omega
    · omega
theorem sumN_dvd {f : Nat → Int} : ∀ {m : Nat}, (∀ k, k < m → p ∣ f k) → p ∣ sumN f m
  | 0, _ => Int.dvd_zero _
  | m + 1, h => Int.dvd_add (sumN_dvd (m := m) fun k hk => h k (by omega)) (h m (by omega))
theorem sumN_sub {f g : Nat → Int} : ∀ {m : Nat}, sumN f m - sumN g m = sumN (fun k => f k - g k) m
  | 0 => by simp [sumN]
  | m + 1 => by simp only [sumN]; rw [← sumN_sub (m := m)]; omega
theorem Red.proj (h : Red p n m R l) {v : Nat → Int} (g : Sp p n (Rw m R) v) : Cg p n v fun i => sumN (fun k => v (l k) * R k i) m := by
  induction g with
  | @zero v g =>
    refine fun i hi => Int.dvd_sub (by have := g i hi; simpa using this) (sumN_dvd fun k hk => Int.dvd_mul_of_dvd_left ?_)
    have := g (l k) (h.inn k hk); simpa using this
  | @add v w r a hv hr g ih =>
    obtain ⟨j, hj, rfl⟩ := hr
    intro i hi
    obtain ⟨t1, e1⟩ := g i hi
    obtain ⟨t2, e2⟩ := ih i hi
    have h3 : p ∣ R j i - sumN (fun k => R j (l k) * R k i) m := by
      have e : R j i = sumN (fun k => if k = j then R j i else 0) m := by
        rw [sumN_one (i := j) hj (fun k _ hne => by simp [hne])]; simp
      rw [e, sumN_sub]
      refine sumN_dvd fun k hk => ?_
      by_cases hkj : k = j
      · subst hkj
        simp only [if_true]
        obtain ⟨t, e⟩ := h.one k hk
        have e9 : R k (l k) = p * t + 1 := by omega
        refine ⟨-(t * R k i), ?_⟩
        rw [e9, Int.add_mul, Int.one_mul, Int.mul_neg, Int.mul_assoc]; omega
      · simp only [hkj, if_false]
        obtain ⟨t, e⟩ := h.oth k j hk hj hkj
        exact ⟨-(t * R k i), by rw [e, Int.mul_neg, Int.mul_assoc]; omega⟩
    have h4 : p ∣ sumN (fun k => (w (l k) - (v (l k) + a * R j (l k))) * R k i) m :=
      sumN_dvd fun k hk => Int.dvd_mul_of_dvd_left (g (l k) (h.inn k hk))
    obtain ⟨t3, e3⟩ := h3
    obtain ⟨t4, e4⟩ := h4
    have e5 : sumN (fun k => (w (l k) - (v (l k) + a * R j (l k))) * R k i) m = sumN (fun k => w (l k) * R k i) m - (sumN (fun k => v (l k) * R k i) m + a * sumN (fun k => R j (l k) * R k i) m) := by
      rw [sumN_mul, sumN_add, sumN_sub]
      exact sumN_congr fun k _ => by simp only [Int.sub_mul, Int.add_mul, Int.mul_assoc]
    refine ⟨t1 + t2 + a * t3 - t4, ?_⟩
    have e6 : a * (R j i - sumN (fun k => R j (l k) * R k i) m) = a * (p * t3) := by rw [e3]
    rw [Int.mul_sub] at e6
    have e7 : p * (t1 + t2 + a * t3 - t4) = p * t1 + p * t2 + a * (p * t3) - p * t4 := by
      rw [Int.mul_sub, Int.mul_add, Int.mul_add, Int.mul_left_comm]
    rw [e7, ← e1, ← e2, ← e6, ← e4, e5]
    simp only
    omega
theorem Red.lead (h : Red p n m R l) {v : Nat → Int} (g : Sp p n (Rw m R) v) {c : Nat} (hc : c < n) (h1 : ¬ p ∣ v c) (h0 : ∀ i, i < c → p ∣ v i) : ∃ k, k < m ∧ l k = c := by
  apply Classical.byContradiction
  intro hn
  apply h1
  obtain ⟨t, e⟩ := h.proj g c hc
  have : p ∣ sumN (fun k => v (l k) * R k c) m := by
    refine sumN_dvd fun k hk => ?_
    by_cases h2 : l k < c
    · exact Int.dvd_mul_of_dvd_left (h0 _ h2)
    · have h3 : l k ≠ c := fun e => hn ⟨k, hk, e⟩
      exact Int.dvd_mul_of_dvd_right (h.low k c hk (by omega))
  obtain ⟨s, f⟩ := this
  exact ⟨t + s, by rw [Int.mul_add, ← e, ← f]; simp only; omega⟩
theorem not_dvd_one (hp : 1 < p) {x : Int} (h : p ∣ x - 1) : ¬ p ∣ x := fun g => by
  have h2 : p ∣ x - (x - 1) := Int.dvd_sub g h
  have e : x - (x - 1) = 1 := by omega
  rw [e] at h2
  have := Int.le_of_dvd (by omega) h2
  omega
theorem rise_same {m m' : Nat} {l l' : Nat → Nat} (u : ∀ j k, j < k → k < m → l j < l k) (u' : ∀ j k, j < k → k < m' → l' j < l' k)
    (a : ∀ k, k < m → ∃ j, j < m' ∧ l' j = l k) (b : ∀ k, k < m' → ∃ j, j < m ∧ l j = l' k) (k : Nat) : k < m → k < m' ∧ l k = l' k := by
  induction k using Nat.strongRecOn with
  | ind k ih =>
    intro hk
    have mono : ∀ {m : Nat} {l : Nat → Nat}, (∀ j k, j < k → k < m → l j < l k) → ∀ {j k}, j ≤ k → k < m → l j ≤ l k := by
      intro m l u j k hjk hk
      by_cases e : j = k
      · subst e; exact Nat.le_refl _
      · exact Nat.le_of_lt (u j k (by omega) hk)
    obtain ⟨j, hj, e⟩ := a k hk
    have hkj : k ≤ j := by
      apply Classical.byContradiction; intro h
      have h1 := ih j (by omega) (by omega)
      have h2 := u j k (by omega) hk
      omega
    have hk' : k < m' := by omega
    obtain ⟨i, hi, e'⟩ := b k hk'
    have hki : k ≤ i := by
      apply Classical.byContradiction; intro h
      have h1 := ih i (by omega) (by omega)
      have h2 := u' i k (by omega) hk'
      omega
    have h3 := mono u hki hi
    have h4 := mono u' hkj hj
    exact ⟨hk', by omega⟩
theorem Red.same (hp : 1 < p) (h : Red p n m R l) (h' : Red p n m' R' l') (a : ∀ k, k < m → Sp p n (Rw m' R') (R k)) (b : ∀ k, k < m' → Sp p n (Rw m R) (R' k)) :
    m = m' ∧ ∀ k, k < m → l k = l' k ∧ Cg p n (R k) (R' k) := by
  have A : ∀ k, k < m → ∃ j, j < m' ∧ l' j = l k := fun k hk => h'.lead (a k hk) (h.inn k hk) (not_dvd_one hp (h.one k hk)) (fun i hi => h.low k i hk hi)
  have B : ∀ k, k < m' → ∃ j, j < m ∧ l j = l' k := fun k hk => h.lead (b k hk) (h'.inn k hk) (not_dvd_one hp (h'.one k hk)) (fun i hi => h'.low k i hk hi)
  have S := rise_same h.up h'.up A B
  have S' := rise_same h'.up h.up B A
  have em : m = m' := by
    apply Classical.byContradiction; intro hne
    by_cases hlt : m < m'
    · have := (S' m hlt).1; omega
    · have := (S m' (by omega)).1; omega
  refine ⟨em, fun k hk => ⟨(S k hk).2, ?_⟩⟩
  subst em
  have g := h.proj (b k hk)
  refine (g.trans fun i hi => ?_).symm
  have e : R k i = sumN (fun j => if j = k then R k i else 0) m := by
    rw [sumN_one (i := k) hk (fun j _ hne => by simp [hne])]; simp
  rw [e, sumN_sub]
  refine sumN_dvd fun j hj => ?_
  rw [(S j hj).2]
  by_cases hkj : j = k
  · subst hkj
    simp only [if_true]
    obtain ⟨t, e⟩ := h'.one j hj
    have e9 : R' j (l' j) = p * t + 1 := by omega
    refine ⟨t * R j i, ?_⟩
    rw [e9, Int.add_mul, Int.one_mul, Int.mul_assoc]; omega
  · simp only [hkj, if_false]
    obtain ⟨t, e⟩ := h'.oth j k hj hk hkj
    exact ⟨t * R j i, by rw [e, Int.mul_assoc]; omega⟩
end Go.Proofs.YtoeailachidcdaaGreatDoor.H
namespace Go.Proofs.YtoeailachidcdaaGreatDoor.H
open Go Go.RowKit Go.Proofs.YtoeailachidcdaaGreatDoor.Hg
set_option linter.unusedVariables false
set_option linter.unusedSimpArgs false
section
variable {p : Int} {n m : Nat} {R : Nat → Nat → Int} {l : Nat → Nat}
def Sub (p : Int) (n : Nat) (G H : (Nat → Int) → Prop) : Prop := ∀ r, G r → Sp p n H r
def Un (G : (Nat → Int) → Prop) (v : Nat → Int) : (Nat → Int) → Prop := fun r => G r ∨ r = v
theorem Sub.trans {G H J : (Nat → Int) → Prop} (a : Sub p n G H) (b : Sub p n H J) : Sub p n G J := fun r h => (a r h).mono b
theorem Sub.refl {G : (Nat → Int) → Prop} : Sub p n G G := fun r h => .of h
theorem Sub.un {G H : (Nat → Int) → Prop} {v : Nat → Int} (a : Sub p n G H) (b : Sp p n H v) : Sub p n (Un G v) H := fun r h => by
  rcases h with h | rfl
  · exact a r h
  · exact b
theorem Sub.left {G : (Nat → Int) → Prop} {v : Nat → Int} : Sub p n G (Un G v) := fun r h => .of (.inl h)
theorem dvd_of_eq {a b : Int} (h : p ∣ a) (e : b = a) : p ∣ b := e ▸ h
def lessW (R : Nat → Nat → Int) (w : Nat → Int) (a : Nat) (k : Nat) : Nat → Int := fun i => R k i - R k a * w i
def ixT (t k : Nat) : Nat := if k < t then k else k - 1
def putR (R : Nat → Nat → Int) (w : Nat → Int) (a t : Nat) (k : Nat) : Nat → Int := if k = t then w else lessW R w a (ixT t k)
def putL (l : Nat → Nat) (a t : Nat) (k : Nat) : Nat := if k = t then a else l (ixT t k)
structure Ins (p : Int) (n m : Nat) (R : Nat → Nat → Int) (l : Nat → Nat) (w : Nat → Int) (a t : Nat) : Prop where
  red : Red p n m R l
  an : a < n
  w1 : p ∣ w a - 1
  wlow : ∀ i, i < a → p ∣ w i
  wl : ∀ k, k < m → p ∣ w (l k)
  tm : t ≤ m
  h1 : ∀ j, j < t → l j < a
  h2 : ∀ j, t ≤ j → j < m → a < l j
theorem Red.cg {R' : Nat → Nat → Int} (h : Red p n m R l) (g : ∀ k, k < m → Cg p n (R' k) (R k)) : Red p n m R' l := by
  have key : ∀ k i, k < m → i < n → ∀ x, p ∣ R k i - x → p ∣ R' k i - x := fun k i hk hi x hx => by
    have := Int.dvd_add (g k hk i hi) hx
    exact dvd_of_eq this (by omega)
  refine ⟨h.inn, h.up, fun k hk => key k _ hk (h.inn k hk) 1 (h.one k hk), fun j k hj hk hne => ?_, fun k i hk hi => ?_⟩
  · have := key k (l j) hk (h.inn j hj) 0 (by rw [Int.sub_zero]; exact h.oth j k hj hk hne)
    rwa [Int.sub_zero] at this
  · have := key k i hk (by have := h.inn k hk; omega) 0 (by rw [Int.sub_zero]; exact h.low k i hk hi)
    rwa [Int.sub_zero] at this
variable {w : Nat → Int} {a t : Nat}
theorem Ins.f1 (h : Ins p n m R l w a t) {j : Nat} (hj : j < m) : p ∣ lessW R w a j (l j) - 1 := by
  have := Int.dvd_sub (h.red.one j hj) (Int.dvd_mul_of_dvd_right (b := R j a) (h.wl j hj))
  exact dvd_of_eq this (by unfold lessW; omega)
theorem Ins.f2 (h : Ins p n m R l w a t) {i j : Nat} (hi : i < m) (hj : j < m) (hne : i ≠ j) : p ∣ lessW R w a j (l i) :=
  Int.dvd_sub (h.red.oth i j hi hj hne) (Int.dvd_mul_of_dvd_right (h.wl i hi))
theorem Ins.f3 (h : Ins p n m R l w a t) {j : Nat} : p ∣ lessW R w a j a := by
  have := Int.dvd_mul_of_dvd_right (b := - R j a) h.w1
  refine dvd_of_eq this ?_
  unfold lessW
  rw [Int.mul_sub, Int.neg_mul, Int.mul_one]; omega
theorem Ins.f4 (h : Ins p n m R l w a t) {i j : Nat} (hj : j < m) (hi : i < l j) : p ∣ lessW R w a j i := by
  by_cases hjt : j < t
  · exact Int.dvd_sub (h.red.low j i hj hi) (Int.dvd_mul_of_dvd_right (h.wlow i (by have := h.h1 j hjt; omega)))
  · exact Int.dvd_sub (h.red.low j i hj hi) (Int.dvd_mul_of_dvd_left (h.red.low j a hj (h.h2 j (by omega) hj)))
theorem Ins.put (h : Ins p n m R l w a t) : Red p n (m + 1) (putR R w a t) (putL l a t) := by
  have ht := h.tm
  have ix : ∀ k, k < m + 1 → k ≠ t → ixT t k < m := fun k hk hne => by unfold ixT; split <;> omega
  refine ⟨fun k hk => ?_, fun j k hjk hk => ?_, fun k hk => ?_, fun j k hj hk hne => ?_, fun k i hk hi => ?_⟩
  · unfold putL; split
    · exact h.an
    · exact h.red.inn _ (ix k hk ‹_›)
  · unfold putL
    by_cases e : j = t
    · have e2 : k ≠ t := by omega
      rw [if_pos e, if_neg e2]
      refine h.h2 _ ?_ (ix k hk e2)
      unfold ixT; split <;> omega
    · rw [if_neg e]
      by_cases e2 : k = t
      · rw [if_pos e2]
        have : ixT t j = j := by unfold ixT; rw [if_pos (by omega)]
        rw [this]
        exact h.h1 j (by omega)
      · rw [if_neg e2]
        refine h.red.up _ _ ?_ (ix k hk e2)
        unfold ixT; split <;> split <;> omega
  · unfold putL putR
    by_cases e : k = t
    · rw [if_pos e, if_pos e]; exact h.w1
    · rw [if_neg e, if_neg e]; exact h.f1 (ix k hk e)
  · unfold putL putR
    by_cases e : j = t
    · have e2 : k ≠ t := by omega
      rw [if_pos e, if_neg e2]; exact h.f3
    · rw [if_neg e]
      by_cases e2 : k = t
      · rw [if_pos e2]; exact h.wl _ (ix j hj e)
      · rw [if_neg e2]
        refine h.f2 (ix j hj e) (ix k hk e2) ?_
        unfold ixT; split <;> split <;> omega
  · unfold putL at hi
    unfold putR
    by_cases e : k = t
    · rw [if_pos e] at hi
      rw [if_pos e]; exact h.wlow i hi
    · rw [if_neg e] at hi
      rw [if_neg e]; exact h.f4 (ix k hk e) hi
theorem Ins.sub1 (h : Ins p n m R l w a t) : Sub p n (Rw (m + 1) (putR R w a t)) (Un (Rw m R) w) := by
  rintro r ⟨k, hk, rfl⟩
  have ht := h.tm
  unfold putR
  by_cases e : k = t
  · rw [if_pos e]; exact .of (.inr rfl)
  · rw [if_neg e]
    have hk' : ixT t k < m := by unfold ixT; split <;> omega
    refine .add (- R (ixT t k) a) (.of (.inl ⟨_, hk', rfl⟩)) (.inr rfl) (Cg.of_eq fun i _ => ?_)
    unfold lessW
    rw [Int.neg_mul]; omega
theorem Ins.sub2 (h : Ins p n m R l w a t) : Sub p n (Un (Rw m R) w) (Rw (m + 1) (putR R w a t)) := by
  have ht := h.tm
  have hw : Rw (m + 1) (putR R w a t) w := ⟨t, by omega, by unfold putR; rw [if_pos rfl]⟩
  rintro r (⟨k, hk, rfl⟩ | rfl)
  · have hf : Rw (m + 1) (putR R w a t) (lessW R w a k) := by
      refine ⟨if k < t then k else k + 1, by split <;> omega, ?_⟩
      unfold putR ixT
      by_cases e : k < t
      · simp only [if_pos e]; rw [if_neg (by omega)]
      · simp only [if_neg e]; rw [if_neg (by omega), if_neg (by omega)]; rfl
    refine .add (R k a) (.of hf) hw (Cg.of_eq fun i _ => ?_)
    unfold lessW; omega
  · exact .of hw
structure Elim (p : Int) (N c d : Nat) (S : Nat → Nat → Int) (pl : Nat → Nat) : Prop where
  dN : d ≤ N
  plc : ∀ k, k < d → pl k < c
  up : ∀ j k, j < k → k < d → pl j < pl k
  one : ∀ k, k < d → p ∣ S k (pl k) - 1
  oth : ∀ j k, j < d → k < N → j ≠ k → p ∣ S k (pl j)
  low : ∀ k i, k < d → i < pl k → p ∣ S k i
  zer : ∀ k i, d ≤ k → k < N → i < c → p ∣ S k i
variable {N c d : Nat} {S S' : Nat → Nat → Int} {pl : Nat → Nat}
theorem Elim.init : Elim p N 0 0 S pl := ⟨by omega, fun k h => by omega, fun _ _ _ h => by omega, fun k h => by omega, fun j k h => by omega, fun k i h => by omega, fun k i _ _ h => by omega⟩
theorem Elim.skip (h : Elim p N c d S pl) (g : ∀ k, d ≤ k → k < N → p ∣ S k c) : Elim p N (c + 1) d S pl :=
  ⟨h.dN, fun k hk => by have := h.plc k hk; omega, h.up, h.one, h.oth, h.low, fun k i h1 h2 h3 => by
    by_cases e : i = c
    · subst e; exact g k h1 h2
    · exact h.zer k i h1 h2 (by omega)⟩
def swapR (S : Nat → Nat → Int) (d e : Nat) : Nat → Nat → Int := fun k => if k = e then S d else if k = d then S e else S k
theorem Elim.swap (h : Elim p N c d S pl) {e : Nat} (he : d ≤ e) (hN : e < N) : Elim p N c d (swapR S d e) pl := by
  have lo : ∀ k, k < d → swapR S d e k = S k := fun k hk => by unfold swapR; rw [if_neg (by omega), if_neg (by omega)]
  have hi : ∀ k, d ≤ k → k < N → ∃ k', d ≤ k' ∧ k' < N ∧ swapR S d e k = S k' := fun k h1 h2 => by
    unfold swapR
    by_cases e1 : k = e
    · exact ⟨d, by omega, by omega, by rw [if_pos e1]⟩
    · by_cases e2 : k = d
      · exact ⟨e, he, hN, by rw [if_neg e1, if_pos e2]⟩
      · exact ⟨k, h1, h2, by rw [if_neg e1, if_neg e2]⟩
  refine ⟨h.dN, h.plc, h.up, fun k hk => by rw [lo k hk]; exact h.one k hk, fun j k hj hk hne => ?_, fun k i hk hi' => by rw [lo k hk]; exact h.low k i hk hi', fun k i h1 h2 h3 => ?_⟩
  · by_cases hkd : k < d
    · rw [lo k hkd]; exact h.oth j k hj hk hne
    · obtain ⟨k', g1, g2, g3⟩ := hi k (by omega) hk
      rw [g3]; exact h.oth j k' hj g2 (by omega)
  · obtain ⟨k', g1, g2, g3⟩ := hi k h1 h2
    rw [g3]; exact h.zer k' i g1 g2 h3
theorem Elim.step (h : Elim p N c d S pl) (hd : d < N) {n : Nat} (hc : c < n) {b : Int} (hb : p ∣ b * S d c - 1) (hS : Cg p n (S' d) fun i => b * S d i) (hO : ∀ k, k < N → k ≠ d → Cg p n (S' k) fun i => S k i - S k c * S' d i) :
    Elim p N (c + 1) (d + 1) S' (fun k => if k = d then c else pl k) := by
  have d1 : p ∣ S' d c - 1 := by
    have := Int.dvd_add (hS c hc) hb
    exact dvd_of_eq this (by simp only; omega)
  have dz : ∀ i, i < n → p ∣ S d i → p ∣ S' d i := fun i hi hz => by
    have := Int.dvd_add (hS i hi) (Int.dvd_mul_of_dvd_right (b := b) hz)
    exact dvd_of_eq this (by simp only; omega)
  have kz : ∀ k i, k < N → k ≠ d → i < n → p ∣ S k i → p ∣ S d i → p ∣ S' k i := fun k i hk hne hi h1 h2 => by
    have := Int.dvd_add (hO k hk hne i hi) (Int.dvd_sub h1 (Int.dvd_mul_of_dvd_right (b := S k c) (dz i hi h2)))
    exact dvd_of_eq this (by simp only; omega)
  have kc : ∀ k, k < N → k ≠ d → p ∣ S' k c := fun k hk hne => by
    have h2 := Int.dvd_mul_of_dvd_right (b := - S k c) d1
    have := Int.dvd_add (hO k hk hne c hc) h2
    refine dvd_of_eq this ?_
    simp only [Int.mul_sub, Int.neg_mul, Int.mul_one]; omega
  refine ⟨by omega, fun k hk => ?_, fun j k hjk hk => ?_, fun k hk => ?_, fun j k hj hk hne => ?_, fun k i hk hi => ?_, fun k i h1 h2 h3 => ?_⟩
  · split
    · omega
    · have := h.plc k (by omega); omega
  · skip
    rw [if_neg (show ¬ j = d by omega)]
    by_cases e : k = d
    · rw [if_pos e]; exact h.plc j (by omega)
    · rw [if_neg e]; exact h.up j k hjk (by omega)
  · skip
    by_cases e : k = d
    · subst e; rw [if_pos rfl]; exact d1
    · rw [if_neg e]
      have hk' : k < d := by omega
      have hp := h.plc k hk'
      have h1 := h.zer d (pl k) (by omega) hd hp
      have h2 := Int.dvd_add (hO k (by omega) e (pl k) (by omega)) (Int.dvd_sub (h.one k hk') (Int.dvd_mul_of_dvd_right (b := S k c) (dz (pl k) (by omega) h1)))
      exact dvd_of_eq h2 (by simp only; omega)
  · skip
    by_cases e : j = d
    · subst e; rw [if_pos rfl]; exact kc k hk (by omega)
    · rw [if_neg e]
      have hj' : j < d := by omega
      have hp := h.plc j hj'
      have h1 := h.zer d (pl j) (by omega) hd hp
      by_cases e2 : k = d
      · subst e2; exact dz _ (by omega) h1
      · exact kz k _ hk e2 (by omega) (h.oth j k hj' hk hne) h1
  · skip
    by_cases e : k = d
    · subst e
      rw [if_pos rfl] at hi
      exact dz i (by omega) (h.zer k i (by omega) hd hi)
    · rw [if_neg e] at hi
      have hp := h.plc k (by omega)
      exact kz k i (by omega) e (by omega) (h.low k i (by omega) hi) (h.zer d i (by omega) hd (by omega))
  · by_cases e : i = c
    · subst e; exact kc k h2 (by omega)
    · exact kz k i h2 (by omega) (by omega) (h.zer k i (by omega) h2 (by omega)) (h.zer d i (by omega) hd (by omega))
theorem Elim.done (h : Elim p N c d S pl) {n : Nat} (hcn : c ≤ n) (hc : c = n ∨ d = N) : Red p n d S pl ∧ Sub p n (Rw N S) (Rw d S) ∧ Sub p n (Rw d S) (Rw N S) := by
  have hdN := h.dN
  refine ⟨⟨fun k hk => by have := h.plc k hk; omega, h.up, h.one, fun j k hj hk hne => h.oth j k hj (by omega) hne, h.low⟩, ?_, ?_⟩
  · rintro r ⟨k, hk, rfl⟩
    by_cases hkd : k < d
    · exact .of ⟨k, hkd, rfl⟩
    · refine .zero fun i hi => ?_
      rw [Int.sub_zero]
      rcases hc with rfl | rfl
      · exact h.zer k i (by omega) hk hi
      · omega
  · rintro r ⟨k, hk, rfl⟩
    exact .of ⟨k, by omega, rfl⟩
theorem swap_sub {e : Nat} (hd : d < N) (he : e < N) : Sub p n (Rw N (swapR S d e)) (Rw N S) ∧ Sub p n (Rw N S) (Rw N (swapR S d e)) := by
  constructor
  · rintro r ⟨k, hk, rfl⟩
    unfold swapR
    split
    · exact .of ⟨d, hd, rfl⟩
    · split
      · exact .of ⟨e, he, rfl⟩
      · exact .of ⟨k, hk, rfl⟩
  · rintro r ⟨k, hk, rfl⟩
    by_cases e1 : k = d
    · subst e1; exact .of ⟨e, he, by unfold swapR; rw [if_pos rfl]⟩
    · by_cases e2 : k = e
      · subst e2; exact .of ⟨d, hd, by unfold swapR; rw [if_neg (by omega), if_pos rfl]⟩
      · exact .of ⟨k, hk, by unfold swapR; rw [if_neg e2, if_neg e1]⟩
theorem step_sub (hd : d < N) {b : Int} (hb : p ∣ b * S d c - 1) (hS : Cg p n (S' d) fun i => b * S d i) (hO : ∀ k, k < N → k ≠ d → Cg p n (S' k) fun i => S k i - S k c * S' d i) :
    Sub p n (Rw N S') (Rw N S) ∧ Sub p n (Rw N S) (Rw N S') := by
  have a1 : Sp p n (Rw N S) (S' d) := (Sp.times b (.of ⟨d, hd, rfl⟩)).cg hS
  have a2 : Sp p n (Rw N S') (S d) := by
    refine (Sp.times (S d c) (.of (r := S' d) ⟨d, hd, rfl⟩)).cg ?_
    refine Cg.symm ((hS.mul (S d c)).trans fun i hi => ?_)
    have := Int.dvd_mul_of_dvd_left (c := S d i) hb
    refine dvd_of_eq this ?_
    simp only [Int.sub_mul, Int.one_mul]
    rw [Int.mul_comm b (S d c), Int.mul_assoc]
  constructor
  · rintro r ⟨k, hk, rfl⟩
    by_cases e : k = d
    · subst e; exact a1
    · refine ((Sp.of (r := S k) ⟨k, hk, rfl⟩).plus (a1.times (- S k c))).cg ((hO k hk e).trans (Cg.of_eq fun i _ => ?_))
      simp only [Int.neg_mul]; omega
  · rintro r ⟨k, hk, rfl⟩
    by_cases e : k = d
    · subst e; exact a2
    · refine ((Sp.of (r := S' k) ⟨k, hk, rfl⟩).plus (Sp.times (S k c) (.of (r := S' d) ⟨d, hd, rfl⟩))).cg fun i hi => ?_
      obtain ⟨x, ex⟩ := hO k hk e i hi
      exact ⟨-x, by rw [Int.mul_neg, ← ex]; simp only; omega⟩
end
end Go.Proofs.YtoeailachidcdaaGreatDoor.H
namespace Go.Proofs.YtoeailachidcdaaGreatDoor.H
open Go Go.RowKit Go.Proofs.YtoeailachidcdaaGreatDoor.Hg
set_option linter.unusedVariables false
set_option linter.unusedSimpArgs false
set_option maxRecDepth 100000
section
variable {ρ : Type}
def seekN (good : Nat → Bool) : Nat → Nat → Nat
  | i, 0 => i
  | i, k + 1 => if good i = true then i else seekN good (i + 1) k
theorem seekN_range {good : Nat → Bool} : ∀ {k i : Nat}, i ≤ seekN good i k ∧ seekN good i k ≤ i + k
  | 0, i => by simp [seekN]
  | k + 1, i => by
    simp only [seekN]
    split
    · omega
    · have := seekN_range (good := good) (k := k) (i := i + 1); omega
theorem seekN_low {good : Nat → Bool} : ∀ {k i : Nat}, ∀ j, i ≤ j → j < seekN good i k → good j = false
  | 0, i, j, h1, h2 => by simp only [seekN] at h2; omega
  | k + 1, i, j, h1, h2 => by
    simp only [seekN] at h2
    split at h2
    · omega
    · rename_i hg
      by_cases e : j = i
      · subst e; simpa using hg
      · exact seekN_low (k := k) (i := i + 1) j (by omega) h2
theorem seekN_good {good : Nat → Bool} : ∀ {k i : Nat}, seekN good i k < i + k → good (seekN good i k) = true
  | 0, i, h => by simp only [seekN] at h; omega
  | k + 1, i, h => by
    simp only [seekN] at h ⊢
    by_cases hg : good i = true
    · rw [if_pos hg]; exact hg
    · rw [if_neg hg] at h ⊢
      exact seekN_good (k := k) (i := i + 1) (by omega)
theorem seekN_lt {good : Nat → Bool} {k i j : Nat} (h1 : i ≤ j) (h2 : j < i + k) (hg : good j = true) : seekN good i k ≤ j := by
  apply Classical.byContradiction
  intro hn
  have := seekN_low (good := good) (k := k) (i := i) j h1 (by omega)
  rw [hg] at this; cases this
theorem loop_seek {l : Nat → Nat → Option ρ} {n : Nat} (good : Nat → Bool) (X : Nat → Option ρ) (hs : ∀ m i, i < n → l (m + 1) i = if good i = true then X i else l m (i + 1)) (ho : ∀ m, l (m + 1) n = X n) :
    ∀ (k i m : Nat), i + k = n → k < m → l m i = X (seekN good i k)
  | 0, i, m, h, hm => by
    obtain ⟨m, rfl⟩ : ∃ k, m = k + 1 := ⟨m - 1, by omega⟩
    have : i = n := by omega
    subst this
    exact ho m
  | k + 1, i, m, h, hm => by
    obtain ⟨m, rfl⟩ : ∃ k, m = k + 1 := ⟨m - 1, by omega⟩
    rw [hs m i (by omega)]
    simp only [seekN]
    by_cases hb : good i = true
    · rw [if_pos hb, if_pos hb]
    · rw [if_neg hb, if_neg hb]
      exact loop_seek good X hs ho k (i + 1) m (by omega) (by omega)
def first8 (v : Nat → Int) : Nat := seekN (fun i => !decide (v i = 0)) 0 8
theorem first8_low {v : Nat → Int} {i : Nat} (h : i < first8 v) : v i = 0 := by
  have := seekN_low (good := fun i => !decide (v i = 0)) (k := 8) (i := 0) i (by omega) h
  simpa using this
theorem first8_at {v : Nat → Int} (h : first8 v < 8) : v (first8 v) ≠ 0 := by
  have := seekN_good (good := fun i => !decide (v i = 0)) (k := 8) (i := 0) (by show first8 v < 0 + 8; omega)
  unfold first8
  simpa using this
theorem first8_le {v : Nat → Int} {i : Nat} (hi : i < 8) (h : v i ≠ 0) : first8 v ≤ i :=
  seekN_lt (good := fun i => !decide (v i = 0)) (by omega) (by omega) (by simpa using h)
theorem first8_is {v : Nat → Int} {i : Nat} (hi : i < 8) (h : v i ≠ 0) (h0 : ∀ j, j < i → v j = 0) : first8 v = i := by
  have h1 := first8_le hi h
  apply Classical.byContradiction
  intro hn
  exact first8_at (v := v) (by omega) (h0 _ (by omega))
theorem spec_first (K : Int → Option ρ) (v : Nat → Int) : spec_l01First 3000000 K v = K ((first8 v : Nat) : Int) := by
  unfold spec_l01First spec_l01First.s first8
  refine loop_seek (l := fun N i => spec_l01First.l0 3000000 K v (fun ov2 => spec_l01First.a0_0 3000000 K ov2) N (i : Int)) (n := 8) (fun i => !decide (v i = 0)) (fun i => K (i : Int)) (fun q i hi => ?_) (fun q => ?_) 8 0 3000000 (by omega) (by omega)
  · simp only [spec_l01First.l0, spec_l01First.b0]
    have h1 : (i : Int) < 8 := by omega
    have h2 : (0 : Int) ≤ i ∧ (i : Int) < 8 := by omega
    simp only [h1, h2, decide_true, if_true, and_self, Int.toNat_natCast, Nat.mul_one, nx (show i < 100000 by omega), spec_l01First.a0_0]
    by_cases e : v i = 0
    · simp [e]
    · simp [e]
  · rfl
def invN (p x : Int) : Nat := seekN (fun k => decide ((k : Int) * x % p = 1)) 1 30
theorem inv_ex {p x : Int} (hp : isP p = true) (h0 : 0 < x) (h1 : x < p) : ∃ k : Nat, 0 < k ∧ (k : Int) < p ∧ (k : Int) * x % p = 1 := by
  obtain ⟨y, rfl⟩ : ∃ y : Nat, x = y := ⟨x.toNat, by omega⟩
  have key : ∀ q : Nat, q ∈ [2, 3, 5, 7, 11, 13, 17, 19, 23, 29, 31] → ∀ y, y < q → 0 < y → ∃ k, k < q ∧ 0 < k ∧ k * y % q = 1 := by decide +kernel
  unfold isP at hp
  simp only [decide_eq_true_eq] at hp
  obtain ⟨q, rfl⟩ : ∃ q : Nat, p = q := ⟨p.toNat, by simp only [List.mem_cons, List.mem_nil_iff, or_false] at hp; omega⟩
  have hq : q ∈ [2, 3, 5, 7, 11, 13, 17, 19, 23, 29, 31] := by
    simp only [List.mem_cons, List.mem_nil_iff, or_false] at hp ⊢; omega
  obtain ⟨k, h2, h3, h4⟩ := key q hq y (by omega) (by omega)
  exact ⟨k, h3, by omega, by rw [← Int.natCast_mul, ← Int.natCast_emod, h4]; rfl⟩
theorem invN_ok {p x : Int} (hp : isP p = true) (h0 : 0 < x) (h1 : x < p) : 0 < invN p x ∧ (invN p x : Int) < p ∧ p ∣ (invN p x : Int) * x - 1 := by
  obtain ⟨k, h2, h3, h4⟩ := inv_ex hp h0 h1
  have hr := isP_range hp
  have g1 : invN p x ≤ k := seekN_lt (by omega) (by omega) (by simpa using h4)
  have g2 := (seekN_range (good := fun k => decide ((k : Int) * x % p = 1)) (k := 30) (i := 1)).1
  have g3 := seekN_good (good := fun k => decide ((k : Int) * x % p = 1)) (k := 30) (i := 1) (by unfold invN at g1; omega)
  refine ⟨by unfold invN; omega, by omega, ?_⟩
  simp only [decide_eq_true_eq] at g3
  have := Int.emod_add_mul_ediv ((invN p x : Int) * x) p
  exact ⟨(invN p x : Int) * x / p, by unfold invN at *; omega⟩
theorem spec_inverse (K : Int → Option ρ) {p x : Int} (hp : isP p = true) (h0 : 0 < x) (h1 : x < p) : spec_l01Inverse 3000000 K p x = K (invN p x : Int) := by
  have hr := isP_range hp
  obtain ⟨k, h2, h3, h4⟩ := inv_ex hp h0 h1
  unfold spec_l01Inverse spec_l01Inverse.s
  have main : ∀ (n i q : Nat), i + n = 31 → n < q → 1 ≤ i → (∀ j, 1 ≤ j → j < i → ¬ (j : Int) * x % p = 1) → spec_l01Inverse.l0 3000000 K p x (spec_l01Inverse.a0_0 3000000 K) q (i : Int) = K (seekN (fun k => decide ((k : Int) * x % p = 1)) i n : Int) := by
    intro n
    induction n with
    | zero =>
      intro i q e _ _ hj
      exact absurd h4 (hj k (by omega) (by omega))
    | succ n ih =>
      intro i q e hq hi hj
      obtain ⟨q, rfl⟩ : ∃ k, q = k + 1 := ⟨q - 1, by omega⟩
      have hik : i ≤ k := by
        apply Classical.byContradiction; intro hn
        exact hj k (by omega) (by omega) h4
      have e1 : (i : Int) < p := by omega
      have e2 : ¬ p = 0 := by omega
      have m1 : 0 ≤ (i : Int) * x := Int.mul_nonneg (by omega) (by omega)
      have m2 : (i : Int) * x ≤ 31 * 31 := Int.mul_le_mul (by omega) (by omega) (by omega) (by omega)
      simp only [spec_l01Inverse.l0, spec_l01Inverse.b0, e1, e2, decide_true, if_true, if_false, seekN]
      rw [wrap64_id (x := x) (by omega) (by omega), wrap64_id (x := (i : Int) * x) (by omega) (by omega), Int.tmod_eq_emod_of_nonneg m1, nx (by omega)]
      by_cases hg : (i : Int) * x % p = 1
      · simp only [hg, beq_self_eq_true, if_true, decide_true]
        rw [wrap8_id (by omega) (by omega)]
      · simp only [hg, beq_iff_eq, if_false, decide_false, Bool.false_eq_true]
        exact ih (i + 1) q (by omega) (by omega) (by omega) (fun j h5 h6 => by
          by_cases ej : j = i
          · subst ej; exact hg
          · exact hj j h5 (by omega))
  exact main 30 1 3000000 (by omega) (by omega) (by omega) (fun j h5 h6 => by omega)
def rw8 (g : Nat → Int) (k : Nat) : Nat → Int := fun z => g (k * 8 + z)
structure RedG (p : Int) (m : Nat) (g : Nat → Int) (l : Nat → Nat) : Prop where
  red : Red p 8 m (rw8 g) l
  ent : ∀ k, k < m → inP p (rw8 g k)
theorem zero_of {p x : Int} (h : p ∣ x) (h0 : 0 ≤ x) (h1 : x < p) : x = 0 := by
  obtain ⟨t, e⟩ := h
  have := Int.emod_eq_of_lt h0 h1
  rw [e, Int.mul_emod_right] at this
  omega
theorem RedG.first {p : Int} {m : Nat} {g : Nat → Int} {l : Nat → Nat} (hp : 1 < p) (h : RedG p m g l) {k : Nat} (hk : k < m) : first8 (rw8 g k) = l k := by
  have hl := h.red.inn k hk
  refine first8_is hl (fun e => ?_) (fun j hj => zero_of (h.red.low k j hk hj) (h.ent k hk j (by omega)).1 (h.ent k hk j (by omega)).2)
  have := h.red.one k hk
  exact not_dvd_one hp this (by rw [e]; exact Int.dvd_zero _)
theorem addV_in {p : Int} (hp : 0 < p) {v w : Nat → Int} {k : Int} : inP p (addV p v w k) := fun i hi => by
  unfold addV
  rw [if_pos hi]
  exact ⟨Int.emod_nonneg _ (by omega), Int.emod_lt_of_pos _ hp⟩
theorem addV_cg {p : Int} {v w : Nat → Int} {k : Int} : Cg p 8 (addV p v w k) fun i => v i + k * w i := by
  intro i hi
  unfold addV
  rw [if_pos hi]
  exact Cg.mod (p := p) (n := 8) (v := fun i => v i + k * w i) i hi
def byS (p : Int) (g v : Nat → Int) : Nat → Nat → Int
  | 0 => v
  | k + 1 => let u := byS p g v k; if u (first8 (rw8 g k)) = 0 then u else addV p u (rw8 g k) (- u (first8 (rw8 g k)))
theorem byS_in {p : Int} (hp : 0 < p) {g v : Nat → Int} (hv : inP p v) : ∀ {k : Nat}, inP p (byS p g v k)
  | 0 => hv
  | k + 1 => by
    simp only [byS]
    split
    · exact byS_in hp hv
    · exact addV_in hp
theorem spec_by (K : (Nat → Int) → Option ρ) {p : Int} {m c : Nat} {g v : Nat → Int} {l : Nat → Nat} (hp : 1 < p) (hp' : p ≤ 255) (h : RedG p m g l) (hv : inP p v) (hm : m ≤ 1000) : spec_l01By_su_v2 3000000 K p v m c g = K (byS p g v m) := by
  unfold spec_l01By_su_v2 spec_l01By_su_v2.s
  refine loop_at (n := m) (fun k => byS p g v k) rfl (fun q k hk => ?_) (fun q => ?_) (by omega)
  · simp only [spec_l01By_su_v2.l0, spec_l01By_su_v2.b0, spec_first]
    have h1 : (k : Int) < (m : Int) := by omega
    have h2 : (0 : Int) ≤ k ∧ (k : Int) < (m : Int) := by omega
    have hf := h.first hp hk
    have hl := h.red.inn k hk
    have h3 : (0 : Int) ≤ ((first8 (rw8 g k) : Nat) : Int) ∧ ((first8 (rw8 g k) : Nat) : Int) < 8 := by omega
    have hu := byS_in (p := p) (by omega) (g := g) hv (k := k)
    have hu' := hu (first8 (rw8 g k)) (by omega)
    have er : (fun z => g (k * 8 + z)) = rw8 g k := rfl
    simp only [h1, h2, decide_true, if_true, and_self, Int.toNat_natCast, Nat.zero_add, Nat.mul_one, nx (show k < 100000 by omega), er, h3, byS]
    by_cases e : byS p g v k (first8 (rw8 g k)) = 0
    · simp [e]
    · have e' : (byS p g v k (first8 (rw8 g k)) != 0) = true := by simpa using e
      simp only [e', e, if_true, if_false]
      have hb : ∀ i, i < 8 → 0 ≤ rw8 g k i ∧ rw8 g k i ≤ 255 := fun i hi => by have := h.ent k hk i hi; omega
      rw [wrap64_id (x := byS p g v k (first8 (rw8 g k))) (by omega) (by omega), wrap64_id (by omega) (by omega), spec_add _ (by omega) hp' (fun i hi => by have := hu i hi; omega) hb (by omega) (by omega)]
      rw [Int.zero_sub]
  · simp only [spec_l01By_su_v2.l0, spec_l01By_su_v2.b0, Int.lt_irrefl, decide_false, Bool.false_eq_true, if_false, spec_l01By_su_v2.a0_0]
theorem byS_ok {p : Int} {m : Nat} {g v : Nat → Int} {l : Nat → Nat} (hp : 1 < p) (h : RedG p m g l) (hv : inP p v) : ∀ k, k ≤ m → (∃ s, Sp p 8 (Rw m (rw8 g)) s ∧ Cg p 8 (byS p g v k) (fun i => v i + s i)) ∧ ∀ j, j < k → p ∣ byS p g v k (l j)
  | 0, _ => ⟨⟨fun _ => 0, .zero .refl, Cg.of_eq fun i _ => by simp [byS]⟩, fun j hj => by omega⟩
  | k + 1, hk => by
    obtain ⟨⟨s, h1, h2⟩, h3⟩ := byS_ok hp h hv k (by omega)
    have hf := h.first hp (show k < m by omega)
    simp only [byS]
    rw [hf]
    by_cases e : byS p g v k (l k) = 0
    · rw [if_pos e]
      refine ⟨⟨s, h1, h2⟩, fun j hj => ?_⟩
      by_cases ej : j = k
      · subst ej; rw [e]; exact Int.dvd_zero _
      · exact h3 j (by omega)
    · rw [if_neg e]
      refine ⟨⟨_, h1.add (- byS p g v k (l k)) ⟨k, by omega, rfl⟩ Cg.refl, ?_⟩, fun j hj => ?_⟩
      · refine addV_cg.trans ((h2.add (Cg.refl (v := fun i => - byS p g v k (l k) * rw8 g k i))).trans (Cg.of_eq fun i _ => by omega))
      · have hl := h.red.inn j (by omega)
        have c := addV_cg (p := p) (v := byS p g v k) (w := rw8 g k) (k := - byS p g v k (l k)) (l j) hl
        by_cases ej : j = k
        · subst ej
          have h4 := Int.dvd_mul_of_dvd_right (b := - byS p g v j (l j)) (h.red.one j (by omega))
          have := Int.dvd_add c h4
          refine dvd_of_eq this ?_
          simp only [Int.mul_sub, Int.mul_one]; omega
        · have h4 := Int.dvd_mul_of_dvd_right (b := - byS p g v k (l k)) (h.red.oth j k (by omega) (by omega) ej)
          have := Int.dvd_add c (Int.dvd_add (h3 j (by omega)) h4)
          exact dvd_of_eq this (by simp only; omega)
end
end Go.Proofs.YtoeailachidcdaaGreatDoor.H
namespace Go.Proofs.YtoeailachidcdaaGreatDoor.H
open Go Go.RowKit Go.Proofs.YtoeailachidcdaaGreatDoor.Hg
set_option linter.unusedVariables false
set_option linter.unusedSimpArgs false
set_option maxRecDepth 100000
section
variable {ρ : Type} {p : Int} {m : Nat} {g : Nat → Int} {l : Nat → Nat}
theorem Red.le_lead {n : Nat} {R : Nat → Nat → Int} (h : Red p n m R l) : ∀ k, k < m → k ≤ l k
  | 0, _ => Nat.zero_le _
  | k + 1, hk => by
    have h1 := h.le_lead k (by omega)
    have h2 := h.up k (k + 1) (by omega) hk
    omega
theorem Red.many {n : Nat} {R : Nat → Nat → Int} (h : Red p n m R l) : m ≤ n := by
  cases m with
  | zero => omega
  | succ m =>
    have h1 := h.le_lead m (by omega)
    have h2 := h.inn m (by omega)
    omega
theorem rw8_lt {o k z : Nat} {g f : Nat → Int} (h : k < o) (hz : z < 8) : rw8 (joinN (o * 8) g f) k z = rw8 g k z := by
  unfold rw8 joinN; rw [if_pos (by omega)]
theorem rw8_eq {o z : Nat} {g f : Nat → Int} : rw8 (joinN (o * 8) g f) o z = f z := by
  unfold rw8 joinN; rw [if_neg (by omega)]; congr 1; omega
def lesP (p : Int) (g w : Nat → Int) (a k : Nat) : Nat → Int := addV p (rw8 g k) w (- rw8 g k a)
def insS (p : Int) (g w : Nat → Int) (a : Nat) : Nat → Nat × Bool × (Nat → Int)
  | 0 => (0, false, fun _ => 0)
  | i + 1 => let s := insS p g w a i
    if (!s.2.1 && decide (a < first8 (rw8 g i))) = true then (s.1 + 1 + 1, true, joinN ((s.1 + 1) * 8) (joinN (s.1 * 8) s.2.2 w) (lesP p g w a i))
    else (s.1 + 1, s.2.1, joinN (s.1 * 8) s.2.2 (lesP p g w a i))
def putE (p : Int) (g w : Nat → Int) (a t k : Nat) : Nat → Int := if k = t then w else lesP p g w a (ixT t k)
theorem insS_le {w : Nat → Int} {a : Nat} : ∀ {i : Nat}, (insS p g w a i).1 ≤ 2 * i
  | 0 => by simp [insS]
  | i + 1 => by
    have := insS_le (w := w) (a := a) (i := i)
    simp only [insS]
    split
    · simp only; omega
    · simp only; omega
theorem insS_ok (hp : 1 < p) (h : RedG p m g l) {w : Nat → Int} {a : Nat} (ha : a < 8) (w1 : p ∣ w a - 1) (wl : ∀ k, k < m → p ∣ w (l k)) : ∀ i, i ≤ m →
    ((insS p g w a i).2.1 = false → (insS p g w a i).1 = i ∧ (∀ j, j < i → l j < a) ∧ ∀ k z, k < i → z < 8 → rw8 (insS p g w a i).2.2 k z = lesP p g w a k z) ∧
    ((insS p g w a i).2.1 = true → (insS p g w a i).1 = i + 1 ∧ ∃ t, t < i ∧ (∀ j, j < t → l j < a) ∧ a < l t ∧ ∀ k z, k < i + 1 → z < 8 → rw8 (insS p g w a i).2.2 k z = putE p g w a t k z)
  | 0, _ => ⟨fun _ => ⟨rfl, fun j hj => by omega, fun k z hk => by omega⟩, fun h => by simp [insS] at h⟩
  | i + 1, hi => by
    obtain ⟨i1, i2⟩ := insS_ok hp h ha w1 wl i (by omega)
    have hf := h.first hp (show i < m by omega)
    have hne : l i ≠ a := fun e => not_dvd_one hp w1 (e ▸ wl i (by omega))
    simp only [insS]
    by_cases hpl : (insS p g w a i).2.1 = true
    · obtain ⟨e1, t, ht, h3, h4, h5⟩ := i2 hpl
      have hc : ¬ ((!(insS p g w a i).2.1 && decide (a < first8 (rw8 g i))) = true) := by simp [hpl]
      rw [if_neg hc]
      refine ⟨fun e => (by rw [hpl] at e; cases e), fun _ => ⟨by simp only; omega, t, by omega, h3, h4, fun k z hk hz => ?_⟩⟩
      simp only
      by_cases e : k = i + 1
      · subst e
        rw [e1, rw8_eq]
        unfold putE ixT
        rw [if_neg (by omega), if_neg (by omega)]; rfl
      · rw [rw8_lt (by omega) hz]; exact h5 k z (by omega) hz
    · have hpl' : (insS p g w a i).2.1 = false := by simpa using hpl
      obtain ⟨e1, h3, h5⟩ := i1 hpl'
      by_cases hgt : a < l i
      · have hc : (!(insS p g w a i).2.1 && decide (a < first8 (rw8 g i))) = true := by simp [hpl', hf, hgt]
        rw [if_pos hc]
        refine ⟨fun e => by simp at e, fun _ => ⟨by simp only; omega, i, by omega, h3, hgt, fun k z hk hz => ?_⟩⟩
        simp only
        unfold putE ixT
        rw [e1]
        by_cases e : k = i + 1
        · subst e
          rw [rw8_eq, if_neg (by omega), if_neg (by omega)]; rfl
        · rw [rw8_lt (by omega) hz]
          by_cases e' : k = i
          · subst e'; rw [rw8_eq, if_pos rfl]
          · rw [rw8_lt (by omega) hz, if_neg e', if_pos (by omega)]; exact h5 k z (by omega) hz
      · have hc : ¬ ((!(insS p g w a i).2.1 && decide (a < first8 (rw8 g i))) = true) := by simp [hpl', hf, hgt]
        rw [if_neg hc]
        refine ⟨fun _ => ⟨by simp only; omega, fun j hj => ?_, fun k z hk hz => ?_⟩, fun e => (by rw [hpl'] at e; cases e)⟩
        · by_cases e : j = i
          · subst e; omega
          · exact h3 j (by omega)
        · simp only
          by_cases e : k = i
          · subst e; rw [e1, rw8_eq]
          · rw [rw8_lt (by omega) hz]; exact h5 k z (by omega) hz
def putW (p : Int) (u : Nat → Int) : Nat → Int := addV p (fun _ => 0) u (invN p (u (first8 u)))
def putM (p : Int) (m : Nat) (g v : Nat → Int) : Nat × (Nat → Int) :=
  let u := byS p g v m
  if eqN 8 u (fun _ => 0) = true then (m, g)
  else
    let s := insS p g (putW p u) (first8 u) m
    if s.2.1 = true then (s.1, s.2.2) else (s.1 + 1, joinN (s.1 * 8) s.2.2 (putW p u))
theorem first8_nz {u : Nat → Int} (h : ¬ eqN 8 u (fun _ => 0) = true) : first8 u < 8 := by
  apply Classical.byContradiction
  intro hn
  apply h
  unfold eqN
  rw [decide_eq_true_eq]
  intro j hj
  exact first8_low (v := u) (i := j) (by omega)
theorem spec_put (hp : isP p = true) (h : RedG p m g l) {v : Nat → Int} (hv : inP p v) (X : Nat → (Nat → Int) → Option ρ) {c : Nat} : spec_l01Put_su_v2 3000000 (fun r => X r g) X p m v c (fun z => g (0 + z)) = X (putM p m g v).1 (putM p m g v).2 := by
  have hr := isP_range hp
  have hm := h.red.many
  have eg : (fun z => g (0 + z)) = g := by funext z; rw [Nat.zero_add]
  rw [eg]
  unfold spec_l01Put_su_v2 spec_l01Put_su_v2.s
  rw [show (fun z => g (0 + z)) = g from eg]
  rw [spec_by _ (by omega) (by omega) h hv (by omega)]
  have hu := byS_in (p := p) (by omega) (g := g) hv (k := m)
  unfold putM
  simp only [spec_l01Zero]
  by_cases e : eqN 8 (byS p g v m) (fun _ => 0) = true
  · simp only [e, if_true]
  · have hf := first8_nz e
    have hnz := first8_at hf
    have hub := hu _ hf
    have h3 : (0 : Int) ≤ ((first8 (byS p g v m) : Nat) : Int) ∧ ((first8 (byS p g v m) : Nat) : Int) < 8 := by omega
    simp only [e, if_false, spec_first, h3, and_self, if_true, Int.toNat_natCast, Nat.mul_one, Bool.false_eq_true]
    obtain ⟨v1, v2, v3⟩ := invN_ok hp (x := byS p g v m (first8 (byS p g v m))) (by omega) (by omega)
    rw [spec_inverse _ hp (by omega) (by omega)]
    rw [wrap64_id (by omega) (by omega), spec_add _ (by omega) (by omega) (fun i _ => by omega) (fun i hi => by have := hu i hi; omega) (by omega) (by omega)]
    have hw : inP p (putW p (byS p g v m)) := addV_in (by omega)
    have main := loop_st (l := fun N (i : Nat) (s : Nat × Bool × (Nat → Int)) => spec_l01Put_su_v2.l0 3000000 (fun r => X r g) X p m g ((first8 (byS p g v m) : Nat) : Int) (putW p (byS p g v m)) (fun ov18 ov19 ov20 => spec_l01Put_su_v2.a0_0 3000000 (fun r => X r g) X (putW p (byS p g v m)) ov18 ov19 ov20) N s.1 s.2.1 (i : Int) s.2.2) (n := m)
      (out := if (insS p g (putW p (byS p g v m)) (first8 (byS p g v m)) m).2.1 = true then X (insS p g (putW p (byS p g v m)) (first8 (byS p g v m)) m).1 (insS p g (putW p (byS p g v m)) (first8 (byS p g v m)) m).2.2 else X ((insS p g (putW p (byS p g v m)) (first8 (byS p g v m)) m).1 + 1) (joinN ((insS p g (putW p (byS p g v m)) (first8 (byS p g v m)) m).1 * 8) (insS p g (putW p (byS p g v m)) (first8 (byS p g v m)) m).2.2 (putW p (byS p g v m))))
      (insS p g (putW p (byS p g v m)) (first8 (byS p g v m))) (fun q i hi => ?_) (fun q => ?_) m 0 3000000 (by omega) (by omega)
    · refine Eq.trans main ?_
      split <;> rfl
    · have hle := insS_le (p := p) (g := g) (i := i) (w := putW p (byS p g v m)) (a := first8 (byS p g v m))
      generalize hs : insS p g (putW p (byS p g v m)) (first8 (byS p g v m)) i = s at hle
      obtain ⟨o, pl, gg⟩ := s
      simp only at hle
      simp only [insS, hs, spec_l01Put_su_v2.l0, spec_l01Put_su_v2.b0]
      have h1 : (i : Int) < (m : Int) := by omega
      have h2 : (0 : Int) ≤ i ∧ (i : Int) < (m : Int) := by omega
      have b1 : (o + 1) * 8 ≤ 140737488355328 := by omega
      have b2 : (o + 1 + 1) * 8 ≤ 140737488355328 := by omega
      have er : (fun z => g (i * 8 + z)) = rw8 g i := rfl
      have hri := h.ent i hi
      have hra := hri _ hf
      have ek : IntKind.i64.wrap (0 - IntKind.i64.wrap (g (i * 8 + first8 (byS p g v m)))) = - rw8 g i (first8 (byS p g v m)) := by
        show IntKind.i64.wrap (0 - IntKind.i64.wrap (rw8 g i (first8 (byS p g v m)))) = _
        rw [wrap64_id (x := rw8 g i (first8 (byS p g v m))) (by omega) (by omega), wrap64_id (by omega) (by omega)]; omega
      have ea : ∀ Y : (Nat → Int) → Option ρ, spec_l01Add 3000000 Y p (rw8 g i) (putW p (byS p g v m)) (- rw8 g i (first8 (byS p g v m))) = Y (lesP p g (putW p (byS p g v m)) (first8 (byS p g v m)) i) := fun Y =>
        spec_add _ (by omega) (by omega) (fun j hj => by have := hri j hj; omega) (fun j hj => by have := hw j hj; omega) (by omega) (by omega)
      simp only [h1, h2, h3, b1, b2, decide_true, if_true, and_self, Int.toNat_natCast, Nat.zero_add, Nat.mul_one, nx (show i < 100000 by omega), er, ek, ea, spec_first]
      cases pl
      · by_cases hgt : first8 (byS p g v m) < first8 (rw8 g i)
        · have hgt' : ((first8 (rw8 g i) : Nat) : Int) > ((first8 (byS p g v m) : Nat) : Int) := by omega
          simp [hgt, hgt']
        · have hgt' : ¬ ((first8 (rw8 g i) : Nat) : Int) > ((first8 (byS p g v m) : Nat) : Int) := by omega
          simp only [hgt, hgt', Bool.not_false, if_true, decide_false, Bool.false_eq_true, if_false, Bool.and_false]
      · simp
    · have hle := insS_le (p := p) (g := g) (i := m) (w := putW p (byS p g v m)) (a := first8 (byS p g v m))
      have b1 : ((insS p g (putW p (byS p g v m)) (first8 (byS p g v m)) m).1 + 1) * 8 ≤ 140737488355328 := by omega
      simp only [spec_l01Put_su_v2.l0, spec_l01Put_su_v2.b0, Int.lt_irrefl, decide_false, Bool.false_eq_true, if_false, spec_l01Put_su_v2.a0_0, b1, if_true]
      cases (insS p g (putW p (byS p g v m)) (first8 (byS p g v m)) m).2.1 <;> simp
theorem putM_ok (hp : isP p = true) (h : RedG p m g l) {v : Nat → Int} (hv : inP p v) : ∃ l', RedG p (putM p m g v).1 (putM p m g v).2 l' ∧ Sub p 8 (Rw (putM p m g v).1 (rw8 (putM p m g v).2)) (Un (Rw m (rw8 g)) v) ∧ Sub p 8 (Un (Rw m (rw8 g)) v) (Rw (putM p m g v).1 (rw8 (putM p m g v).2)) := by
  have hr := isP_range hp
  have hu := byS_in (p := p) (by omega) (g := g) hv (k := m)
  obtain ⟨⟨s, s1, s2⟩, s3⟩ := byS_ok (by omega) h hv m (Nat.le_refl m)
  generalize hU : byS p g v m = u at hu s2 s3
  unfold putM
  simp only [hU]
  have vs : Cg p 8 v fun i => u i + (-1) * s i := fun i hi => by
    obtain ⟨t, e⟩ := s2 i hi
    exact ⟨-t, by rw [Int.mul_neg, ← e]; simp only; omega⟩
  by_cases e : eqN 8 u (fun _ => 0) = true
  · simp only [e, if_true]
    refine ⟨l, h, Sub.left, Sub.un Sub.refl ((s1.times (-1)).cg (vs.trans (Cg.of_eq fun i hi => ?_)))⟩
    unfold eqN at e
    rw [decide_eq_true_eq] at e
    have := e i hi
    simp only at this
    rw [this]; omega
  · have hf := first8_nz e
    have hnz := first8_at hf
    have hub := hu _ hf
    obtain ⟨v1, v2, v3⟩ := invN_ok hp (x := u (first8 u)) (by omega) (by omega)
    have hw : inP p (putW p u) := addV_in (by omega)
    have wc : Cg p 8 (putW p u) fun i => (invN p (u (first8 u)) : Int) * u i := (addV_cg (p := p)).trans (Cg.of_eq fun i _ => by omega)
    have wz : ∀ i, i < 8 → p ∣ u i → p ∣ putW p u i := fun i hi hz => by
      have := Int.dvd_add (wc i hi) (Int.dvd_mul_of_dvd_right (b := (invN p (u (first8 u)) : Int)) hz)
      exact dvd_of_eq this (by simp only; omega)
    have w1 : p ∣ putW p u (first8 u) - 1 := by
      have := Int.dvd_add (wc _ hf) v3
      exact dvd_of_eq this (by simp only; omega)
    have wl : ∀ k, k < m → p ∣ putW p u (l k) := fun k hk => wz _ (h.red.inn k hk) (s3 k hk)
    have wlow : ∀ i, i < first8 u → p ∣ putW p u i := fun i hi => wz i (by omega) (by rw [first8_low hi]; exact Int.dvd_zero _)
    obtain ⟨i1, i2⟩ := insS_ok (by omega) h hf w1 wl m (Nat.le_refl m)
    have fin : ∃ (t : Nat) (gf : Nat → Int), Ins p 8 m (rw8 g) l (putW p u) (first8 u) t ∧ (if (insS p g (putW p u) (first8 u) m).2.1 = true then ((insS p g (putW p u) (first8 u) m).1, (insS p g (putW p u) (first8 u) m).2.2) else ((insS p g (putW p u) (first8 u) m).1 + 1, joinN ((insS p g (putW p u) (first8 u) m).1 * 8) (insS p g (putW p u) (first8 u) m).2.2 (putW p u))) = (m + 1, gf) ∧
        ∀ k z, k < m + 1 → z < 8 → rw8 gf k z = putE p g (putW p u) (first8 u) t k z := by
      by_cases hpl : (insS p g (putW p u) (first8 u) m).2.1 = true
      · obtain ⟨e1, t, ht, h3, h4, h5⟩ := i2 hpl
        refine ⟨t, _, ⟨h.red, hf, w1, wlow, wl, by omega, h3, fun j h6 h7 => ?_⟩, by rw [if_pos hpl, e1], h5⟩
        have := h.red.le h6 h7
        omega
      · have hpl' : (insS p g (putW p u) (first8 u) m).2.1 = false := by simpa using hpl
        obtain ⟨e1, h3, h5⟩ := i1 hpl'
        refine ⟨m, _, ⟨h.red, hf, w1, wlow, wl, Nat.le_refl m, h3, fun j h6 h7 => by omega⟩, by rw [if_neg hpl, e1], fun k z hk hz => ?_⟩
        unfold putE ixT
        by_cases e : k = m
        · subst e; rw [rw8_eq, if_pos rfl]
        · rw [rw8_lt (by omega) hz, if_neg e, if_pos (by omega)]; exact h5 k z (by omega) hz
    obtain ⟨t, gf, I, eq, rows⟩ := fin
    simp only [e, if_false, Bool.false_eq_true]
    rw [eq]
    have cg : ∀ k, k < m + 1 → Cg p 8 (rw8 gf k) (putR (rw8 g) (putW p u) (first8 u) t k) := fun k hk => by
      refine (Cg.of_eq fun i hi => rows k i hk hi).trans ?_
      unfold putE putR
      split
      · exact Cg.refl
      · unfold lesP lessW
        exact addV_cg.trans (Cg.of_eq fun i _ => by simp only [Int.neg_mul]; omega)
    have sA : Sub p 8 (Rw (m + 1) (rw8 gf)) (Rw (m + 1) (putR (rw8 g) (putW p u) (first8 u) t)) := by
      rintro r ⟨k, hk, rfl⟩; exact (Sp.of ⟨k, hk, rfl⟩).cg (cg k hk)
    have sB : Sub p 8 (Rw (m + 1) (putR (rw8 g) (putW p u) (first8 u) t)) (Rw (m + 1) (rw8 gf)) := by
      rintro r ⟨k, hk, rfl⟩; exact (Sp.of ⟨k, hk, rfl⟩).cg (cg k hk).symm
    refine ⟨_, ⟨I.put.cg cg, fun k hk i hi => ?_⟩, (sA.trans I.sub1).trans ?_, Sub.trans ?_ (I.sub2.trans sB)⟩
    · rw [rows k i hk hi]
      unfold putE
      split
      · exact hw i hi
      · exact addV_in (by omega) i hi
    ·
      refine Sub.un Sub.left ?_
      have uu : Sp p 8 (Un (Rw m (rw8 g)) v) u := ((Sp.of (r := v) (.inr rfl)).plus (s1.mono Sub.left)).cg s2
      exact (uu.times _).cg wc
    · refine Sub.un Sub.left ?_
      have ww : Sp p 8 (Un (Rw m (rw8 g)) (putW p u)) u := by
        refine (Sp.times (u (first8 u)) (Sp.of (r := putW p u) (.inr rfl))).cg ?_
        refine Cg.symm ((wc.mul (u (first8 u))).trans fun i hi => ?_)
        have := Int.dvd_mul_of_dvd_left (c := u i) v3
        refine dvd_of_eq this ?_
        simp only [Int.sub_mul, Int.one_mul]
        rw [Int.mul_comm (invN p (u (first8 u)) : Int) (u (first8 u)), Int.mul_assoc]
      exact (ww.plus ((s1.mono Sub.left).times (-1))).cg vs
def redV (p : Int) (V : Nat → Nat → Int) : Nat → Nat × (Nat → Int)
  | 0 => (0, fun _ => 0)
  | i + 1 => putM p (redV p V i).1 (redV p V i).2 (V i)
theorem redV_ok (hp : isP p = true) {V : Nat → Nat → Int} {N : Nat} (hV : ∀ i, i < N → inP p (V i)) : ∀ i, i ≤ N → ∃ l, RedG p (redV p V i).1 (redV p V i).2 l ∧ Sub p 8 (Rw (redV p V i).1 (rw8 (redV p V i).2)) (Rw i V) ∧ Sub p 8 (Rw i V) (Rw (redV p V i).1 (rw8 (redV p V i).2))
  | 0, _ => ⟨fun _ => 0, ⟨⟨fun k h => by simp [redV] at h, fun j k _ h => by simp [redV] at h, fun k h => by simp [redV] at h, fun j k h => by simp [redV] at h, fun k i h => by simp [redV] at h⟩, fun k h => by simp [redV] at h⟩, (by rintro r ⟨k, hk, _⟩; simp [redV] at hk), (by rintro r ⟨k, hk, _⟩; omega)⟩
  | i + 1, hi => by
    obtain ⟨l, h1, h2, h3⟩ := redV_ok hp hV i (by omega)
    obtain ⟨l', g1, g2, g3⟩ := putM_ok hp h1 (hV i (by omega))
    refine ⟨l', g1, g2.trans (Sub.un (h2.trans ?_) (.of ⟨i, by omega, rfl⟩)), Sub.trans ?_ g3⟩
    · rintro r ⟨k, hk, rfl⟩; exact .of ⟨k, by omega, rfl⟩
    · rintro r ⟨k, hk, rfl⟩
      by_cases e : k = i
      · subst e; exact .of (.inr rfl)
      · exact (h3 _ ⟨k, by omega, rfl⟩).mono Sub.left
def redM (p : Int) (L : Nat → Int) (i : Nat) : Nat × (Nat → Int) := redV p (rw8 L) i
theorem redM_ok (hp : isP p = true) {L : Nat → Int} {N : Nat} (hL : ∀ i, i < N → inP p (rw8 L i)) : ∀ i, i ≤ N → ∃ l, RedG p (redM p L i).1 (redM p L i).2 l ∧ Sub p 8 (Rw (redM p L i).1 (rw8 (redM p L i).2)) (Rw i (rw8 L)) ∧ Sub p 8 (Rw i (rw8 L)) (Rw (redM p L i).1 (rw8 (redM p L i).2)) :=
  redV_ok hp hL
end
end Go.Proofs.YtoeailachidcdaaGreatDoor.H
namespace Go.Proofs.YtoeailachidcdaaGreatDoor.H
open Go Go.RowKit Go.Proofs.YtoeailachidcdaaGreatDoor.Hg
set_option linter.unusedVariables false
set_option linter.unusedSimpArgs false
set_option maxRecDepth 100000
section
variable {ρ : Type} {p : Int} {N W : Nat} {of ln : Nat → Nat} {pool : Nat → Int}
theorem impl_inverse (K : Int → Option ρ) {f : Nat → Int} {x : Int} (hp : isP (f 0) = true) (h0 : 0 < x) (h1 : x < f 0) : impl_field_inverse 3000000 K f x = K (invN (f 0) x : Int) := by
  have hr := isP_range hp
  obtain ⟨k, h2, h3, h4⟩ := inv_ex hp h0 h1
  unfold impl_field_inverse impl_field_inverse.s
  have main : ∀ (n i q : Nat), i + n = 31 → n < q → 1 ≤ i → (∀ j, 1 ≤ j → j < i → ¬ (j : Int) * x % f 0 = 1) → impl_field_inverse.l0 3000000 K f x (impl_field_inverse.a0_0 3000000 K f) q (i : Int) = K (seekN (fun k => decide ((k : Int) * x % f 0 = 1)) i n : Int) := by
    intro n
    induction n with
    | zero =>
      intro i q e _ _ hj
      exact absurd h4 (hj k (by omega) (by omega))
    | succ n ih =>
      intro i q e hq hi hj
      obtain ⟨q, rfl⟩ : ∃ k, q = k + 1 := ⟨q - 1, by omega⟩
      have hik : i ≤ k := by
        apply Classical.byContradiction; intro hn
        exact hj k (by omega) (by omega) h4
      have e1 : (i : Int) < f 0 := by omega
      have e2 : ¬ f 0 = 0 := by omega
      have m1 : 0 ≤ (i : Int) * x := Int.mul_nonneg (by omega) (by omega)
      have m2 : (i : Int) * x ≤ 31 * 31 := Int.mul_le_mul (by omega) (by omega) (by omega) (by omega)
      simp only [impl_field_inverse.l0, impl_field_inverse.b0, e1, e2, decide_true, if_true, if_false, seekN]
      rw [wrap64_id (x := x) (by omega) (by omega), wrap64_id (x := (i : Int) * x) (by omega) (by omega), Int.tmod_eq_emod_of_nonneg m1, nx (by omega)]
      by_cases hg : (i : Int) * x % f 0 = 1
      · simp only [hg, beq_self_eq_true, if_true, decide_true]
      · simp only [hg, beq_iff_eq, if_false, decide_false, Bool.false_eq_true]
        exact ih (i + 1) q (by omega) (by omega) (by omega) (fun j h5 h6 => by
          by_cases ej : j = i
          · subst ej; exact hg
          · exact hj j h5 (by omega))
  exact main 30 1 3000000 (by omega) (by omega) (by omega) (fun j h5 h6 => by omega)
theorem nx' {i : Nat} (h : i < 100000000) : IntKind.i64.wrap ((i : Int) + 1) = ((i + 1 : Nat) : Int) := by
  rw [wrap64_id (by omega) (by omega)]; omega
structure Tbl (p : Int) (N W : Nat) (of ln : Nat → Nat) (pool : Nat → Int) : Prop where
  len : ∀ k, k < N → ln k = W
  dis : ∀ j k, j < N → k < N → j ≠ k → ∀ y z, y < W → z < W → of j + y ≠ of k + z
  ent : ∀ k z, k < N → z < W → 0 ≤ pool (of k + z) ∧ pool (of k + z) < p
def rowO (of : Nat → Nat) (pool : Nat → Int) (k : Nat) : Nat → Int := fun z => pool (of k + z)
def sclP (p b : Int) (o n : Nat) (pool : Nat → Int) : Nat → Int := fun y => if o ≤ y ∧ y < o + n then b * pool y % p else pool y
def subP (p b : Int) (o o' n : Nat) (pool : Nat → Int) : Nat → Int := fun y => if o ≤ y ∧ y < o + n then (pool y - b * pool (o' + (y - o))) % p else pool y
theorem sclP_next {b : Int} {o n : Nat} : upd (sclP p b o n pool) (o + n) (b * sclP p b o n pool (o + n) % p) = sclP p b o (n + 1) pool := by
  funext y
  unfold upd sclP
  by_cases h : y = o + n
  · subst h
    rw [if_pos rfl, if_neg (by omega), if_pos (by omega)]
  · rw [if_neg h]
    by_cases h2 : o ≤ y ∧ y < o + n
    · rw [if_pos h2, if_pos (by omega)]
    · rw [if_neg h2, if_neg (by omega)]
theorem subP_next {b : Int} {o o' n : Nat} (h : ∀ y, y ≤ n → ∀ z, z ≤ n → o + y ≠ o' + z) : upd (subP p b o o' n pool) (o + n) ((subP p b o o' n pool (o + n) - b * subP p b o o' n pool (o' + n)) % p) = subP p b o o' (n + 1) pool := by
  funext y
  have h1 : subP p b o o' n pool (o' + n) = pool (o' + n) := by
    unfold subP
    rw [if_neg]
    rintro ⟨g1, g2⟩
    exact h (o' + n - o) (by omega) n (by omega) (by omega)
  have h3 : subP p b o o' n pool (o + n) = pool (o + n) := by
    unfold subP; rw [if_neg (by omega)]
  rw [h1, h3]
  unfold upd subP
  by_cases hy : y = o + n
  · subst hy
    rw [if_pos rfl, if_pos (by omega)]
    congr 5; omega
  · rw [if_neg hy]
    by_cases h2 : o ≤ y ∧ y < o + n
    · rw [if_pos h2, if_pos (by omega)]
    · rw [if_neg h2, if_neg (by omega)]
def clrP (p : Int) (W a c : Nat) (of : Nat → Nat) (pool : Nat → Int) : Nat → Nat → Int
  | 0 => pool
  | k + 1 => let q := clrP p W a c of pool k
    if k = a ∨ q (of k + c) = 0 then q else subP p (q (of k + c)) (of k) (of a) W q
theorem subP_off {b : Int} {o o' n y : Nat} (h : ∀ z, z < n → y ≠ o + z) : subP p b o o' n pool y = pool y := by
  unfold subP
  rw [if_neg]
  rintro ⟨g1, g2⟩
  exact h (y - o) (by omega) (by omega)
theorem clr_row (t : Tbl p N W of ln pool) {a c : Nat} (ha : a < N) : ∀ k, k ≤ N → (∀ j z, j < N → z < W → (k ≤ j ∨ j = a) → clrP p W a c of pool k (of j + z) = pool (of j + z))
  | 0, _ => fun j z _ _ _ => rfl
  | k + 1, hk => fun j z hj hz hc => by
    have ih := clr_row t (c := c) ha k (by omega) j z hj hz (by omega)
    simp only [clrP]
    split
    · exact ih
    · rw [subP_off]
      · exact ih
      · intro y hy
        exact t.dis j k hj (by omega) (by omega) z y hz hy
theorem clr_got (hp : 0 < p) (t : Tbl p N W of ln pool) {a c : Nat} (ha : a < N) (hc : c < W) : ∀ k, k ≤ N → ∀ j z, j < k → j ≠ a → z < W →
    (p ∣ clrP p W a c of pool k (of j + z) - (pool (of j + z) - pool (of j + c) * pool (of a + z))) ∧ 0 ≤ clrP p W a c of pool k (of j + z) ∧ clrP p W a c of pool k (of j + z) < p
  | 0, _ => fun j z h => by omega
  | k + 1, hk => fun j z hj hne hz => by
    by_cases e : j = k
    · subst e
      have r1 := clr_row t (c := c) ha j (by omega) j z (by omega) hz (.inl (Nat.le_refl _))
      have r2 := clr_row t (c := c) ha j (by omega) j c (by omega) hc (.inl (Nat.le_refl _))
      have r3 := clr_row t (c := c) ha j (by omega) a z ha hz (.inr rfl)
      have he := t.ent j z (by omega) hz
      simp only [clrP]
      by_cases h0 : clrP p W a c of pool j (of j + c) = 0
      · rw [if_pos (.inr h0), r1]
        rw [r2] at h0
        rw [h0, Int.zero_mul, Int.sub_zero, Int.sub_self]
        exact ⟨Int.dvd_zero _, he⟩
      · rw [if_neg (by rintro (h | h); exact hne h; exact h0 h)]
        have hs : subP p (clrP p W a c of pool j (of j + c)) (of j) (of a) W (clrP p W a c of pool j) (of j + z) = (pool (of j + z) - pool (of j + c) * pool (of a + z)) % p := by
          unfold subP
          rw [if_pos (by omega), r1, r2, show of j + z - of j = z by omega, r3]
        rw [hs]
        exact ⟨Cg.mod (p := p) (n := 1) (v := fun _ => pool (of j + z) - pool (of j + c) * pool (of a + z)) 0 (by omega), Int.emod_nonneg _ (by omega), Int.emod_lt_of_pos _ hp⟩
    · have ih := clr_got hp t ha hc k (by omega) j z (by omega) hne hz
      simp only [clrP]
      split
      · exact ih
      · rw [subP_off]
        · exact ih
        · intro y hy
          exact t.dis j k (by omega) (by omega) e z y hz hy
theorem impl_clear (hp : isP p = true) (t : Tbl p N W of ln pool) (K : (Nat → Int) → (Nat → Int) → Option ρ) {f pl mn : Nat → Int} {a c d1 d2 d3 : Nat} (hf : f 0 = p) (ha : a < N) (hc : c < W) (hN : N ≤ 1000000) (hW : W ≤ 100) (hnz : pool (of a + c) ≠ 0) :
    impl_system_clear_v2 3000000 K (a : Int) (c : Int) f mn N d1 d2 d3 of ln pl pool = K pl (clrP p W a c of (sclP p (invN p (pool (of a + c)) : Int) (of a) W pool) N) := by
  have hr := isP_range hp
  have hac := t.ent a c ha hc
  have iv := invN_ok hp (x := pool (of a + c)) (by omega) (by omega)
  have g1 : (0 : Int) ≤ (a : Int) ∧ (a : Int) < (N : Int) := by omega
  have g2 : (0 : Int) ≤ (c : Int) ∧ (c : Int) < (W : Int) := by omega
  unfold impl_system_clear_v2 impl_system_clear_v2.s
  simp only [g1, g2, t.len a ha, and_self, if_true, Int.toNat_natCast, Nat.zero_add, Nat.mul_one]
  rw [impl_inverse _ (by rw [hf]; exact hp) (by omega) (by rw [hf]; omega), hf]
  refine loop_at (n := W) (fun i => sclP p (invN p (pool (of a + c)) : Int) (of a) i pool) (by funext y; unfold sclP; rw [if_neg (by omega)]) (fun q i hi => ?_) (fun q => ?_) (by omega)
  · simp only [impl_system_clear_v2.l0, impl_system_clear_v2.b0]
    have h1 : (i : Int) < (W : Int) := by omega
    have h2 : (0 : Int) ≤ i ∧ (i : Int) < (W : Int) := by omega
    have he := t.ent a i ha hi
    have hs : sclP p (invN p (pool (of a + c)) : Int) (of a) i pool (of a + i) = pool (of a + i) := by unfold sclP; rw [if_neg (by omega)]
    have m1 : 0 ≤ (invN p (pool (of a + c)) : Int) * pool (of a + i) := Int.mul_nonneg (by omega) (by omega)
    have m2 : (invN p (pool (of a + c)) : Int) * pool (of a + i) ≤ 31 * 31 := Int.mul_le_mul (by omega) (by omega) (by omega) (by omega)
    simp only [h1, h2, t.len a ha, decide_true, if_true, and_self, Int.toNat_natCast, Nat.zero_add, Nat.mul_one, nx (show i < 100000 by omega)]
    rw [impl_mod _ (by omega) (by omega), hf]
    rw [wrap64_id (x := sclP p (invN p (pool (of a + c)) : Int) (of a) i pool (of a + i)) (by omega) (by omega), wrap64_id (by rw [hs]; omega) (by rw [hs]; omega), sclP_next]
  · simp only [impl_system_clear_v2.l0, impl_system_clear_v2.b0, t.len a ha, Nat.zero_add, Nat.mul_one, Int.toNat_natCast, Int.lt_irrefl, decide_false, Bool.false_eq_true, if_false, impl_system_clear_v2.a0_0]
    have t1 : Tbl p N W of ln (sclP p (invN p (pool (of a + c)) : Int) (of a) W pool) := ⟨t.len, t.dis, fun k z hk hz => by
      unfold sclP
      split
      · exact ⟨Int.emod_nonneg _ (by omega), Int.emod_lt_of_pos _ (by omega)⟩
      · exact t.ent k z hk hz⟩
    generalize sclP p (invN p (pool (of a + c)) : Int) (of a) W pool = pool1 at t1
    refine loop_at (n := N) (fun k => clrP p W a c of pool1 k) rfl (fun q k hk => ?_) (fun q => ?_) (by omega)
    · simp only [impl_system_clear_v2.l1, impl_system_clear_v2.b1]
      have h1 : (k : Int) < (N : Int) := by omega
      have h2 : (0 : Int) ≤ k ∧ (k : Int) < (N : Int) := by omega
      simp only [h1, h2, g2, t.len k hk, decide_true, if_true, and_self, Int.toNat_natCast, Nat.zero_add, Nat.mul_one, nx' (show k < 100000000 by omega)]
      by_cases e : k = a
      · have e' : ((k : Int) == (a : Int)) = true := by simp [e]
        rw [if_pos e']
        have : clrP p W a c of pool1 (k + 1) = clrP p W a c of pool1 k := by simp only [clrP]; rw [if_pos (.inl e)]
        rw [this]
      · have e' : ¬ ((k : Int) == (a : Int)) = true := by simp only [beq_iff_eq]; omega
        rw [if_neg e']
        by_cases h0 : clrP p W a c of pool1 k (of k + c) = 0
        · have : clrP p W a c of pool1 (k + 1) = clrP p W a c of pool1 k := by simp only [clrP]; rw [if_pos (.inr h0)]
          rw [this]
          simp [h0]
        · have : clrP p W a c of pool1 (k + 1) = subP p (clrP p W a c of pool1 k (of k + c)) (of k) (of a) W (clrP p W a c of pool1 k) := by simp only [clrP]; rw [if_neg (by rintro (h | h); exact e h; exact h0 h)]
          rw [this]
          have h0' : ¬ (clrP p W a c of pool1 k (of k + c) == 0) = true := by simpa using h0
          rw [if_neg h0']
          have rk := fun z hz => clr_row t1 (c := c) ha k (by omega) k z hk hz (.inl (Nat.le_refl _))
          have ra := fun z hz => clr_row t1 (c := c) ha k (by omega) a z ha hz (.inr rfl)
          have bc := t1.ent k c hk hc
          refine loop_at (n := W) (fun i => subP p (clrP p W a c of pool1 k (of k + c)) (of k) (of a) i (clrP p W a c of pool1 k)) (by funext y; unfold subP; rw [if_neg (by omega)]) (fun q' i hi => ?_) (fun q' => ?_) (by omega)
          · simp only [impl_system_clear_v2.l2, impl_system_clear_v2.b2]
            have k1 : (i : Int) < (W : Int) := by omega
            have k2 : (0 : Int) ≤ i ∧ (i : Int) < (W : Int) := by omega
            have s1 : subP p (clrP p W a c of pool1 k (of k + c)) (of k) (of a) i (clrP p W a c of pool1 k) (of k + i) = pool1 (of k + i) := by
              unfold subP; rw [if_neg (by omega)]; exact rk i hi
            have s2 : subP p (clrP p W a c of pool1 k (of k + c)) (of k) (of a) i (clrP p W a c of pool1 k) (of a + i) = pool1 (of a + i) := by
              rw [subP_off]
              · exact ra i hi
              · intro y hy; exact t1.dis a k ha hk (by omega) i y hi (by omega)
            have s3 := rk c hc
            have b1 := t1.ent k i hk hi
            have b2 := t1.ent a i ha hi
            have m1 : 0 ≤ pool1 (of k + c) * pool1 (of a + i) := Int.mul_nonneg (by omega) (by omega)
            have m2 : pool1 (of k + c) * pool1 (of a + i) ≤ 31 * 31 := Int.mul_le_mul (by omega) (by omega) (by omega) (by omega)
            simp only [k1, k2, t.len a ha, t.len k hk, decide_true, if_true, and_self, Int.toNat_natCast, Nat.zero_add, Nat.mul_one, nx (show i < 100000 by omega)]
            rw [impl_mod _ (by omega) (by omega), hf]
            have ew : IntKind.i64.wrap (IntKind.i64.wrap (subP p (clrP p W a c of pool1 k (of k + c)) (of k) (of a) i (clrP p W a c of pool1 k) (of k + i)) - IntKind.i64.wrap (IntKind.i64.wrap (clrP p W a c of pool1 k (of k + c)) * IntKind.i64.wrap (subP p (clrP p W a c of pool1 k (of k + c)) (of k) (of a) i (clrP p W a c of pool1 k) (of a + i)))) =
                subP p (clrP p W a c of pool1 k (of k + c)) (of k) (of a) i (clrP p W a c of pool1 k) (of k + i) - clrP p W a c of pool1 k (of k + c) * subP p (clrP p W a c of pool1 k (of k + c)) (of k) (of a) i (clrP p W a c of pool1 k) (of a + i) := by
              rw [s1, s2, s3, wrap64_id (x := pool1 (of k + i)) (by omega) (by omega), wrap64_id (x := pool1 (of k + c)) (by omega) (by omega), wrap64_id (x := pool1 (of a + i)) (by omega) (by omega), wrap64_id (x := pool1 (of k + c) * pool1 (of a + i)) (by omega) (by omega), wrap64_id (by omega) (by omega)]
            rw [ew, subP_next]
            intro y hy z hz
            exact t1.dis k a hk ha e y z (by omega) (by omega)
          · simp only [impl_system_clear_v2.l2, impl_system_clear_v2.b2, t.len a ha, Nat.zero_add, Nat.mul_one, Int.toNat_natCast, Int.lt_irrefl, decide_false, Bool.false_eq_true, if_false, impl_system_clear_v2.a2_0, nx' (show k < 100000000 by omega)]
    · simp only [impl_system_clear_v2.l1, impl_system_clear_v2.b1, Int.lt_irrefl, decide_false, Bool.false_eq_true, if_false, impl_system_clear_v2.a1_0]
end
end Go.Proofs.YtoeailachidcdaaGreatDoor.H
namespace Go.Proofs.YtoeailachidcdaaGreatDoor.H
open Go Go.RowKit Go.Proofs.YtoeailachidcdaaGreatDoor.Hg
set_option linter.unusedVariables false
set_option linter.unusedSimpArgs false
set_option maxRecDepth 100000
section
variable {ρ : Type} {p : Int} {N W : Nat} {of ln : Nat → Nat} {pool : Nat → Int}
theorem clear_ok (hp : isP p = true) (t : Tbl p N W of ln pool) {a c : Nat} (ha : a < N) (hc : c < W) :
    Tbl p N W of ln (clrP p W a c of (sclP p (invN p (pool (of a + c)) : Int) (of a) W pool) N) ∧
    (∀ z, z < W → p ∣ clrP p W a c of (sclP p (invN p (pool (of a + c)) : Int) (of a) W pool) N (of a + z) - (invN p (pool (of a + c)) : Int) * pool (of a + z)) ∧
    (∀ k, k < N → k ≠ a → ∀ z, z < W → p ∣ clrP p W a c of (sclP p (invN p (pool (of a + c)) : Int) (of a) W pool) N (of k + z) - (pool (of k + z) - pool (of k + c) * clrP p W a c of (sclP p (invN p (pool (of a + c)) : Int) (of a) W pool) N (of a + z))) := by
  have hr := isP_range hp
  generalize (invN p (pool (of a + c)) : Int) = b
  have t1 : Tbl p N W of ln (sclP p b (of a) W pool) := ⟨t.len, t.dis, fun k z hk hz => by
    unfold sclP
    split
    · exact ⟨Int.emod_nonneg _ (by omega), Int.emod_lt_of_pos _ (by omega)⟩
    · exact t.ent k z hk hz⟩
  have sa : ∀ z, z < W → sclP p b (of a) W pool (of a + z) = b * pool (of a + z) % p := fun z hz => by unfold sclP; rw [if_pos (by omega)]
  have sk : ∀ k z, k < N → k ≠ a → z < W → sclP p b (of a) W pool (of k + z) = pool (of k + z) := fun k z hk hne hz => by
    unfold sclP
    rw [if_neg]
    rintro ⟨g1, g2⟩
    exact t.dis k a hk ha hne z (of k + z - of a) hz (by omega) (by omega)
  have ra : ∀ z, z < W → clrP p W a c of (sclP p b (of a) W pool) N (of a + z) = b * pool (of a + z) % p := fun z hz => by
    rw [clr_row t1 ha N (Nat.le_refl N) a z ha hz (.inr rfl), sa z hz]
  have rk : ∀ k z, k < N → k ≠ a → z < W → _ := fun k z hk hne hz => clr_got (p := p) (by omega) t1 ha hc N (Nat.le_refl N) k z hk hne hz
  refine ⟨⟨t.len, t.dis, fun k z hk hz => ?_⟩, fun z hz => ?_, fun k hk hne z hz => ?_⟩
  · by_cases e : k = a
    · subst e; rw [ra z hz]; exact ⟨Int.emod_nonneg _ (by omega), Int.emod_lt_of_pos _ (by omega)⟩
    · exact (rk k z hk e hz).2
  · rw [ra z hz]
    exact Cg.mod (p := p) (n := 1) (v := fun _ => b * pool (of a + z)) 0 (by omega)
  · have := (rk k z hk hne hz).1
    rw [sk k z hk hne hz, sk k c hk hne hc, sa z hz] at this
    rw [ra z hz]
    exact this
theorem index_eq (K : Int → Option ρ) {s d1 d2 c : Nat} {cf : Nat → Int} (hcf : cf = fun _ => (c : Int)) (hs : s ≤ 1000000) (hl : ∀ x, x < s → ln x = W) (hc : c < W) :
    slices_IndexFunc_suhf 3000000 K s d1 d2 of ln cf pool = if seekN (fun x => !decide (pool (of x + c) = 0)) 0 s < s then K (seekN (fun x => !decide (pool (of x + c) = 0)) 0 s : Int) else K (-1) := by
  subst hcf
  unfold slices_IndexFunc_suhf slices_IndexFunc_suhf.s
  refine Eq.trans (loop_seek (l := fun N i => slices_IndexFunc_suhf.l0 3000000 K s of ln (fun _ => (c : Int)) pool (slices_IndexFunc_suhf.a0_0 3000000 K) N (i : Int)) (n := s) (fun x => !decide (pool (of x + c) = 0)) (fun i => if i < s then K (i : Int) else K (-1)) (fun q i hi => ?_) (fun q => ?_) s 0 3000000 (by omega) (by omega)) rfl
  · simp only [slices_IndexFunc_suhf.l0, slices_IndexFunc_suhf.b0, impl_system_solve_c1_su]
    have h1 : (i : Int) < (s : Int) := by omega
    have h2 : (0 : Int) ≤ i ∧ (i : Int) < (s : Int) := by omega
    have h3 : (0 : Int) ≤ c ∧ (c : Int) < (W : Int) := by omega
    simp only [h1, h2, h3, hl i hi, hi, decide_true, if_true, and_self, Int.toNat_natCast, Nat.zero_add, Nat.mul_one, nx' (show i < 100000000 by omega)]
    by_cases e : pool (of i + c) = 0
    · simp [e]
    · simp [e]
  · simp only [slices_IndexFunc_suhf.l0, slices_IndexFunc_suhf.b0, Int.lt_irrefl, decide_false, Bool.false_eq_true, if_false, slices_IndexFunc_suhf.a0_0, Nat.lt_irrefl]
theorem offN_zero' {g : Nat → Nat} : offN 0 g = g := by funext z; simp [offN]
def swO {α : Type} (h : Nat → α) (d e : Nat) : Nat → α := upd (upd h d (h e)) e (h d)
theorem swO_at {α : Type} {h : Nat → α} {d e k : Nat} : swO h d e k = h (if k = e then d else if k = d then e else k) := by
  unfold swO upd
  by_cases h1 : k = e
  · rw [if_pos h1, if_pos h1]
  · rw [if_neg h1, if_neg h1]
    by_cases h2 : k = d
    · rw [if_pos h2, if_pos h2]
    · rw [if_neg h2, if_neg h2]
theorem Tbl.swap (t : Tbl p N W of ln pool) {d e : Nat} (hd : d < N) (he : e < N) : Tbl p N W (swO of d e) (swO ln d e) pool := by
  have lt : ∀ k, k < N → (if k = e then d else if k = d then e else k) < N := fun k hk => by split; exact hd; split; exact he; exact hk
  refine ⟨fun k hk => by rw [swO_at]; exact t.len _ (lt k hk), fun j k hj hk hne y z hy hz => ?_, fun k z hk hz => by rw [swO_at]; exact t.ent _ z (lt k hk) hz⟩
  rw [swO_at, swO_at]
  refine t.dis _ _ (lt j hj) (lt k hk) ?_ y z hy hz
  split <;> split <;> (try split) <;> (try split) <;> omega
theorem swap_rows {d e : Nat} : rowO (swO of d e) pool = swapR (rowO of pool) d e := by
  funext k z
  unfold rowO swapR
  rw [swO_at]
  by_cases h1 : k = e
  · simp only [if_pos h1]
  · by_cases h2 : k = d
    · simp only [if_neg h1, if_pos h2]
    · simp only [if_neg h1, if_neg h2]
theorem solve_loop (hp : isP p = true) {f : Nat → Int} (hf : f 0 = p) {mn q : Nat} (hmn : mn ≤ 8) (hN : N ≤ 1000000) {G : (Nat → Int) → Prop} :
    ∀ (n fuel c d : Nat) (of ln : Nat → Nat) (pool pls : Nat → Int) (plf : Nat → Nat), c + n = mn → n < fuel → Tbl p N (mn + 1) of ln pool → Elim p N c d (rowO of pool) plf → (∀ k, k < N → p ∣ pool (of k + mn)) →
      Sub p mn (Rw N (rowO of pool)) G → Sub p mn G (Rw N (rowO of pool)) → (∀ k, k < d → pls k = (plf k : Int)) →
    ∃ (d' : Nat) (of' ln' : Nat → Nat) (pool' pls' : Nat → Int) (plf' : Nat → Nat), d' ≤ N ∧
      (∀ (K0 : Bool → Nat → Nat → Nat → (Nat → Nat) → (Nat → Nat) → (Nat → Int) → (Nat → Int) → Option ρ) (out0 : Int → Nat → (Nat → Nat) → (Nat → Nat) → (Nat → Int) → (Nat → Int) → Option ρ), impl_system_solve.l0 3000000 K0 f (fun _ => (mn : Int)) N q out0 fuel (d : Int) d of ln pool (fun _ => (c : Int)) pls = out0 (d' : Int) d' of' ln' pool' pls') ∧
      Tbl p N (mn + 1) of' ln' pool' ∧ Red p mn d' (rowO of' pool') plf' ∧ (∀ k, k < N → p ∣ pool' (of' k + mn)) ∧ Sub p mn (Rw d' (rowO of' pool')) G ∧ Sub p mn G (Rw d' (rowO of' pool')) ∧ (∀ k, k < d' → pls' k = (plf' k : Int)) := by
  have hr := isP_range hp
  intro n
  induction n with
  | zero =>
    intro fuel c d of ln pool pls plf hc hfu t E hz s1 s2 hpl
    obtain ⟨fuel, rfl⟩ : ∃ k, fuel = k + 1 := ⟨fuel - 1, by omega⟩
    have : c = mn := by omega
    subst this
    obtain ⟨e1, e2, e3⟩ := E.done (Nat.le_refl c) (.inl rfl)
    refine ⟨d, of, ln, pool, pls, plf, E.dN, fun K0 out0 => ?_, t, e1, hz, e3.trans s1, s2.trans e2, hpl⟩
    simp only [impl_system_solve.l0, impl_system_solve.b0, Int.lt_irrefl, decide_false, Bool.false_eq_true, if_false]
  | succ n ih =>
    intro fuel c d of ln pool pls plf hc hfu t E hz s1 s2 hpl
    obtain ⟨fuel, rfl⟩ : ∃ k, fuel = k + 1 := ⟨fuel - 1, by omega⟩
    have hcm : (c : Int) < (mn : Int) := by omega
    have hdN := E.dN
    by_cases hd : d < N
    · have hdi : (d : Int) < (N : Int) := by omega
      have hdr : (0 : Int) ≤ d ∧ (d : Int) ≤ (N : Int) ∧ (N : Int) ≤ (N : Int) := ⟨by omega, by omega, by omega⟩
      have hdr2 : (0 : Int) ≤ d ∧ (d : Int) < (N : Int) := by omega
      let E0 := seekN (fun x => !decide (pool (offN (0 + d * 1) of x + c) = 0)) 0 (N - d)
      have hE0 : E0 = seekN (fun x => !decide (pool (offN (0 + d * 1) of x + c) = 0)) 0 (N - d) := rfl
      by_cases hfound : E0 < N - d
      · have hg : pool (of (d + E0) + c) ≠ 0 := by
          have := seekN_good (good := fun x => !decide (pool (offN (0 + d * 1) of x + c) = 0)) (k := N - d) (i := 0) (by rw [← hE0]; omega)
          rw [← hE0] at this
          simp only [offN, Nat.mul_one, Nat.zero_add] at this
          simpa using this
        have hEN : d + E0 < N := by omega
        have t1 := t.swap hd hEN
        have ed : swO of d (d + E0) d = of (d + E0) := by
          rw [swO_at]
          by_cases e : d = d + E0
          · rw [if_pos e, ← e]
          · rw [if_neg e, if_pos rfl]
        have hnz : pool (swO of d (d + E0) d + c) ≠ 0 := by rw [ed]; exact hg
        have hcW : c < mn + 1 := by omega
        have hent := t1.ent d c hd hcW
        obtain ⟨v1, v2, v3⟩ := invN_ok hp (x := pool (swO of d (d + E0) d + c)) (by omega) (by omega)
        obtain ⟨t2, o1, o2⟩ := clear_ok hp t1 (c := c) hd hcW
        have E1 : Elim p N c d (rowO (swO of d (d + E0)) pool) plf := by rw [swap_rows]; exact E.swap (by omega) hEN
        have cgS : Cg p mn (rowO (swO of d (d + E0)) (clrP p (mn + 1) d c (swO of d (d + E0)) (sclP p (invN p (pool (swO of d (d + E0) d + c)) : Int) (swO of d (d + E0) d) (mn + 1) pool) N) d) fun i => (invN p (pool (swO of d (d + E0) d + c)) : Int) * rowO (swO of d (d + E0)) pool d i := fun i hi => o1 i (by omega)
        have cgO : ∀ k, k < N → k ≠ d → Cg p mn (rowO (swO of d (d + E0)) (clrP p (mn + 1) d c (swO of d (d + E0)) (sclP p (invN p (pool (swO of d (d + E0) d + c)) : Int) (swO of d (d + E0) d) (mn + 1) pool) N) k) fun i => rowO (swO of d (d + E0)) pool k i - rowO (swO of d (d + E0)) pool k c * rowO (swO of d (d + E0)) (clrP p (mn + 1) d c (swO of d (d + E0)) (sclP p (invN p (pool (swO of d (d + E0) d + c)) : Int) (swO of d (d + E0) d) (mn + 1) pool) N) d i := fun k hk hne i hi => o2 k hk hne i (by omega)
        have E2 := E1.step hd (show c < mn by omega) v3 cgS cgO
        obtain ⟨q1, q2⟩ := step_sub (p := p) (n := mn) (N := N) (c := c) hd v3 cgS cgO
        obtain ⟨q3, q4⟩ := swap_sub (p := p) (n := mn) (N := N) (S := rowO of pool) hd hEN
        rw [← swap_rows] at q3 q4
        have hzs : ∀ k, k < N → p ∣ pool (swO of d (d + E0) k + mn) := fun k hk => by
          rw [swO_at]
          exact hz _ (by split; exact hd; split; exact hEN; exact hk)
        have hz2 : ∀ k, k < N → p ∣ clrP p (mn + 1) d c (swO of d (d + E0)) (sclP p (invN p (pool (swO of d (d + E0) d + c)) : Int) (swO of d (d + E0) d) (mn + 1) pool) N (swO of d (d + E0) k + mn) := fun k hk => by
          have zd := Int.dvd_add (o1 mn (by omega)) (Int.dvd_mul_of_dvd_right (b := (invN p (pool (swO of d (d + E0) d + c)) : Int)) (hzs d hd))
          have zd' := dvd_of_eq (b := clrP p (mn + 1) d c (swO of d (d + E0)) (sclP p (invN p (pool (swO of d (d + E0) d + c)) : Int) (swO of d (d + E0) d) (mn + 1) pool) N (swO of d (d + E0) d + mn)) zd (by omega)
          by_cases e : k = d
          · subst e; exact zd'
          · have := Int.dvd_add (o2 k hk e mn (by omega)) (Int.dvd_sub (hzs k hk) (Int.dvd_mul_of_dvd_right (b := pool (swO of d (d + E0) k + c)) zd'))
            exact dvd_of_eq this (by omega)
        obtain ⟨d', of', ln', pool', pls', plf', r1, r2, r3, r4, r5, r6, r7, r8⟩ := ih fuel (c + 1) (d + 1) (swO of d (d + E0)) (swO ln d (d + E0)) _ (joinN (d * 1) pls (upd (fun _ => 0) 0 (c : Int))) _ (by omega) (by omega) t2 E2 hz2 (q1.trans (q3.trans s1)) (s2.trans (q4.trans q2)) (fun k hk => by
          unfold joinN upd
          by_cases e : k = d
          · subst e; simp
          · rw [if_pos (by omega)]; simp only [e, if_false]; exact hpl k (by omega))
        refine ⟨d', of', ln', pool', pls', plf', r1, fun K0 out0 => ?_, r3, r4, r5, r6, r7, r8⟩
        rw [← r2 K0 out0]
        have hb : (d + 1) * 8 ≤ 140737488355328 := by omega
        have ew : IntKind.i64.wrap ((d : Int) + (E0 : Int)) = ((d + E0 : Nat) : Int) := by rw [wrap64_id (by omega) (by omega)]; omega
        have hEr : (0 : Int) ≤ ((d + E0 : Nat) : Int) ∧ ((d + E0 : Nat) : Int) < (N : Int) := by omega
        have hneg : ¬ ((E0 : Nat) : Int) < 0 := by omega
        simp only [impl_system_solve.l0, impl_system_solve.b0, hcm, hdi, hdr, hdr2, decide_true, if_true, and_self, Int.toNat_natCast]
        rw [index_eq (W := mn + 1) (c := c) _ rfl (by omega) (fun x hx => by unfold offN; exact t.len _ (by omega)) (by omega)]
        rw [← hE0, if_pos hfound]
        simp only [hneg, decide_false, Bool.false_eq_true, if_false, ew, hEr, hdr2, and_self, if_true, Int.toNat_natCast, Nat.zero_add, Nat.mul_one, offN_zero']
        have ecl := impl_clear (ρ := ρ) (N := N) (W := mn + 1) (of := swO of d (d + E0)) (ln := swO ln d (d + E0)) (pool := pool) hp t1
        refine Eq.trans (ecl _ hf hd hcW (by omega) (by omega) hnz) ?_
        simp only [hb, if_true, nx' (show d < 100000000 by omega), nx' (show c < 100000000 by omega)]
        rfl
      · have hno : ∀ k, d ≤ k → k < N → pool (of k + c) = 0 := fun k h1 h2 => by
          have hE : E0 = N - d := by
            have := (seekN_range (good := fun x => !decide (pool (offN (0 + d * 1) of x + c) = 0)) (k := N - d) (i := 0)).2
            rw [← hE0] at this
            omega
          have := seekN_low (good := fun x => !decide (pool (offN (0 + d * 1) of x + c) = 0)) (k := N - d) (i := 0) (k - d) (by omega) (by rw [← hE0]; omega)
          simp only [offN, Nat.mul_one, Nat.zero_add, show d + (k - d) = k by omega] at this
          simpa using this
        obtain ⟨d', of', ln', pool', pls', plf', r1, r2, r3, r4, r5, r6, r7, r8⟩ := ih fuel (c + 1) d of ln pool pls plf (by omega) (by omega) t (E.skip fun k h1 h2 => by unfold rowO; rw [hno k h1 h2]; exact Int.dvd_zero _) hz s1 s2 hpl
        refine ⟨d', of', ln', pool', pls', plf', r1, fun K0 out0 => ?_, r3, r4, r5, r6, r7, r8⟩
        rw [← r2 K0 out0]
        simp only [impl_system_solve.l0, impl_system_solve.b0, hcm, hdi, hdr, decide_true, if_true, and_self, Int.toNat_natCast]
        rw [index_eq (W := mn + 1) (c := c) _ rfl (by omega) (fun x hx => by unfold offN; exact t.len _ (by omega)) (by omega)]
        rw [← hE0, if_neg hfound]
        simp only [show decide ((-1 : Int) < 0) = true from rfl, if_true, nx' (show c < 100000000 by omega)]
    · have hdi : ¬ (d : Int) < (N : Int) := by omega
      obtain ⟨e1, e2, e3⟩ := E.done (n := mn) (by omega) (.inr (by omega))
      refine ⟨d, of, ln, pool, pls, plf, E.dN, fun K0 out0 => ?_, t, e1, hz, e3.trans s1, s2.trans e2, hpl⟩
      simp only [impl_system_solve.l0, impl_system_solve.b0, hcm, hdi, decide_true, decide_false, Bool.false_eq_true, if_false, if_true]
end
end Go.Proofs.YtoeailachidcdaaGreatDoor.H
namespace Go.Proofs.YtoeailachidcdaaGreatDoor.H
open Go Go.RowKit Go.Proofs.YtoeailachidcdaaGreatDoor.Hg
set_option linter.unusedVariables false
set_option linter.unusedSimpArgs false
set_option maxRecDepth 100000
section
variable {ρ : Type} {p : Int} {N W : Nat} {of ln : Nat → Nat} {pool : Nat → Int}
theorem contains_no (K : Bool → Option ρ) {s d1 d2 mn e1 e2 e3 e4 e5 : Nat} {o1 o2 : Nat → Nat} {f h : Nat → Int} (hs : s ≤ 1000000) (hl : ∀ x, x < s → ln x = mn + 1) (hz : ∀ x, x < s → pool (of x + mn) = 0) :
    slices_ContainsFunc_suhf 3000000 K s d1 d2 of ln pool f (fun _ => (mn : Int)) e1 e2 e3 e4 o1 o2 e5 h = K false := by
  unfold slices_ContainsFunc_suhf slices_IndexFunc_suhf_v2 slices_IndexFunc_suhf_v2.s
  simp only [offN_zero']
  refine go_at (n := s) (fun q i hi => ?_) (fun q => ?_) (by omega)
  · simp only [slices_IndexFunc_suhf_v2.l0, slices_IndexFunc_suhf_v2.b0, impl_system_solve_c2_su]
    have h1 : (i : Int) < (s : Int) := by omega
    have h2 : (0 : Int) ≤ i ∧ (i : Int) < (s : Int) := by omega
    have h3 : (0 : Int) ≤ mn ∧ (mn : Int) < ((mn + 1 : Nat) : Int) := by omega
    simp only [h1, h2, h3, hl i hi, hz i hi, decide_true, if_true, and_self, Int.toNat_natCast, Nat.zero_add, Nat.mul_one, nx' (show i < 100000000 by omega), bne_self_eq_false, Bool.false_eq_true, if_false]
  · simp only [slices_IndexFunc_suhf_v2.l0, slices_IndexFunc_suhf_v2.b0, Int.lt_irrefl, decide_false, Bool.false_eq_true, if_false, slices_IndexFunc_suhf_v2.a0_0]
    rfl
theorem impl_solve (hp : isP p = true) {f : Nat → Int} (hf : f 0 = p) {mn q : Nat} (hmn : mn ≤ 8) (hN : N ≤ 1000000) (t : Tbl p N (mn + 1) of ln pool) (hz : ∀ k, k < N → p ∣ pool (of k + mn)) :
    ∃ (d' : Nat) (of' ln' : Nat → Nat) (pool' pls' : Nat → Int) (plf' : Nat → Nat), d' ≤ N ∧
      (∀ K0 : Bool → Nat → Nat → Nat → (Nat → Nat) → (Nat → Nat) → (Nat → Int) → (Nat → Int) → Option ρ, impl_system_solve 3000000 K0 f (fun _ => (mn : Int)) N q of ln pool = K0 true d' d' q of' ln' pool' pls') ∧
      Tbl p N (mn + 1) of' ln' pool' ∧ Red p mn d' (rowO of' pool') plf' ∧ Sub p mn (Rw d' (rowO of' pool')) (Rw N (rowO of pool)) ∧ Sub p mn (Rw N (rowO of pool)) (Rw d' (rowO of' pool')) ∧ (∀ k, k < d' → pls' k = (plf' k : Int)) := by
  obtain ⟨d', of', ln', pool', pls', plf', r1, r2, r3, r4, r5, r6, r7, r8⟩ := solve_loop (ρ := ρ) (N := N) hp hf (mn := mn) (q := q) hmn hN (G := Rw N (rowO of pool)) mn 3000000 0 0 of ln pool (fun _ => 0) (fun _ => 0) (by omega) (by omega) t Elim.init hz Sub.refl Sub.refl (fun k hk => by omega)
  refine ⟨d', of', ln', pool', pls', plf', r1, fun K0 => ?_, r3, r4, r6, r7, r8⟩
  unfold impl_system_solve impl_system_solve.s
  refine Eq.trans (r2 _ _) ?_
  have h1 : (0 : Int) ≤ d' ∧ (d' : Int) ≤ (N : Int) ∧ (N : Int) ≤ (N : Int) := ⟨by omega, by omega, by omega⟩
  have h2 : (0 : Int) ≤ (0 : Int) ∧ (0 : Int) ≤ (d' : Int) ∧ (d' : Int) ≤ (N : Int) := ⟨by omega, by omega, by omega⟩
  simp only [impl_system_solve.a0_0, h1, h2, and_self, if_true, Int.toNat_natCast]
  refine Eq.trans (contains_no (mn := mn) _ (by omega) (fun x hx => ?_) (fun x hx => ?_)) rfl
  · unfold offN; exact r3.len _ (by omega)
  · have hx' : 0 + d' * 1 + x < N := by omega
    have := r3.ent (0 + d' * 1 + x) mn hx' (by omega)
    exact zero_of (r5 _ hx') this.1 this.2
def rdO : Nat → Nat → Nat
  | 0 => fun _ => 0
  | i + 1 => upd (rdO i) i (9 * i)
def rdL : Nat → Nat → Nat
  | 0 => fun _ => 0
  | i + 1 => upd (rdL i) i 9
def rdP (L : Nat → Int) : Nat → Nat → Int
  | 0 => fun _ => 0
  | i + 1 => joinN (9 * i) (rdP L i) (joinN 8 (joinN 0 (fun _ => 0) fun z => L (i * 8 + z)) (upd (fun _ => 0) 0 0))
theorem rd_ok {L : Nat → Int} : ∀ i k, k < i → rdO i k = 9 * k ∧ rdL i k = 9 ∧ (∀ z, z < 8 → rdP L i (9 * k + z) = L (k * 8 + z)) ∧ rdP L i (9 * k + 8) = 0
  | 0, k, h => by omega
  | i + 1, k, h => by
    by_cases e : k = i
    · subst e
      refine ⟨by simp [rdO, upd], by simp [rdL, upd], fun z hz => ?_, ?_⟩
      · simp only [rdP, joinN]
        rw [if_neg (by omega), if_pos (by omega), if_neg (by omega)]
        congr 1; omega
      · simp only [rdP, joinN, upd]
        rw [if_neg (by omega), if_neg (by omega), if_pos (by omega)]
    · obtain ⟨h1, h2, h3, h4⟩ := rd_ok (L := L) i k (by omega)
      refine ⟨by simp only [rdO, upd]; rw [if_neg e]; exact h1, by simp only [rdL, upd]; rw [if_neg e]; exact h2, fun z hz => ?_, ?_⟩
      · simp only [rdP, joinN]; rw [if_pos (by omega)]; exact h3 z hz
      · simp only [rdP, joinN]; rw [if_pos (by omega)]; exact h4
def fnS (of : Nat → Nat) (pool : Nat → Int) : Nat → Nat → Int
  | 0 => fun _ => 0
  | j + 1 => joinN (j * 8) (fnS of pool j) (fun z => pool (of j + z))
theorem fnS_row : ∀ {j k z : Nat}, k < j → z < 8 → rw8 (fnS of pool j) k z = pool (of k + z)
  | 0, k, z, h, _ => by omega
  | j + 1, k, z, h, hz => by
    simp only [fnS]
    by_cases e : k = j
    · subst e; rw [rw8_eq]
    · rw [rw8_lt (by omega) hz]; exact fnS_row (by omega) hz
theorem reduced_ok (hp : isP p = true) {L : Nat → Int} {a : Nat} (hN : N ≤ 1000000) (hL : ∀ i, i < N → inP p (rw8 L i)) :
    ∃ (d : Nat) (g' : Nat → Int) (l : Nat → Nat), (∀ K : Nat → (Nat → Int) → Option ρ, impl_reduced_su 3000000 K p N a L = K d g') ∧ RedG p d g' l ∧ Sub p 8 (Rw d (rw8 g')) (Rw N (rw8 L)) ∧ Sub p 8 (Rw N (rw8 L)) (Rw d (rw8 g')) := by
  have hr := isP_range hp
  have T : Tbl p N (8 + 1) (rdO N) (rdL N) (rdP L N) := by
    refine ⟨fun k hk => (rd_ok (L := L) N k hk).2.1, fun j k hj hk hne y z hy hz => ?_, fun k z hk hz => ?_⟩
    · rw [(rd_ok (L := L) N j hj).1, (rd_ok (L := L) N k hk).1]; omega
    · obtain ⟨h1, h2, h3, h4⟩ := rd_ok (L := L) N k hk
      rw [h1]
      by_cases e : z = 8
      · subst e; rw [h4]; omega
      · rw [h3 z (by omega)]; exact hL k hk z (by omega)
  have hz : ∀ k, k < N → p ∣ rdP L N (rdO N k + 8) := fun k hk => by
    obtain ⟨h1, h2, h3, h4⟩ := rd_ok (L := L) N k hk
    rw [h1, h4]; exact Int.dvd_zero _
  obtain ⟨d, of', ln', pool', pls', plf', r1, r2, r3, r4, r5, r6, r7⟩ := impl_solve (ρ := ρ) (N := N) (q := 9 * N) hp (f := upd (upd (fun _ => 0) 0 p) 1 0) (by simp [upd]) (mn := 8) (by omega) hN T hz
  have rw1 : ∀ k, k < d → Cg p 8 (rw8 (fnS of' pool' d) k) (rowO of' pool' k) := fun k hk => Cg.of_eq fun i hi => fnS_row hk hi
  have rw2 : ∀ k, k < N → Cg p 8 (rw8 L k) (rowO (rdO N) (rdP L N) k) := fun k hk => Cg.of_eq fun i hi => by
    obtain ⟨h1, h2, h3, h4⟩ := rd_ok (L := L) N k hk
    unfold rowO
    rw [h1, h3 i hi]; rfl
  refine ⟨d, fnS of' pool' d, plf', fun K => ?_, ⟨r4.cg rw1, fun k hk i hi => ?_⟩, Sub.trans (fun r hh => ?_) (r5.trans fun r hh => ?_), Sub.trans (fun r hh => ?_) (r6.trans fun r hh => ?_)⟩
  · unfold impl_reduced_su impl_reduced_su.s impl_newSystem
    have main := loop_st (l := fun F (i : Nat) (s : Nat × Nat × (Nat → Nat) × (Nat → Nat) × (Nat → Int)) => impl_reduced_su.l0 3000000 K N L (fun ov15 ov16 ov17 ov18 ov19 => impl_reduced_su.a0_0 3000000 K (fun rv21 rv23 rv24 rv25 rv26 outv28 x29 gv30 => impl_reduced_su.l1 3000000 K rv21 rv24 rv25 rv26 (fun ov31 ov32 => impl_reduced_su.a1_0 3000000 K ov31 ov32) 3000000 outv28 x29 gv30) (upd (upd (fun _ => 0) 0 p) 1 0) (fun _ => 8) ov15 ov16 ov17 ov18 ov19) F (i : Int) s.1 s.2.1 s.2.2.1 s.2.2.2.1 s.2.2.2.2) (n := N)
      (out := K d (fnS of' pool' d)) (fun i => (i, 9 * i, rdO i, rdL i, rdP L i)) (fun q i hi => ?_) (fun q => ?_) N 0 3000000 (by omega) (by omega)
    · simpa [rdO, rdL, rdP] using main
    · simp only [impl_reduced_su.l0, impl_reduced_su.b0, slices_Clone_s]
      have h1 : (i : Int) < (N : Int) := by omega
      have h2 : (0 : Int) ≤ i ∧ (i : Int) < (N : Int) := by omega
      have b1 : (i + 1) * 24 ≤ 140737488355328 := by omega
      simp only [h1, h2, b1, decide_true, if_true, and_self, Int.toNat_natCast, Nat.zero_add, Nat.mul_one, nx' (show i < 100000000 by omega), rdO, rdL, rdP]
      have e9 : 9 * i + (8 + 1) = 9 * (i + 1) := by omega
      simp only [e9]
      rfl
    · simp only [impl_reduced_su.l0, impl_reduced_su.b0, Int.lt_irrefl, decide_false, Bool.false_eq_true, if_false, impl_reduced_su.a0_0]
      refine Eq.trans (r2 _) ?_
      have m2 := loop_st (l := fun F (i : Nat) (s : Nat × Int × (Nat → Int)) => impl_reduced_su.l1 3000000 K d of' ln' pool' (fun ov31 ov32 => impl_reduced_su.a1_0 3000000 K ov31 ov32) F s.1 s.2.1 s.2.2) (n := d) (out := K d (fnS of' pool' d)) (fun i => (i, (i : Int), fnS of' pool' i)) (fun q i hi => ?_) (fun q => ?_) d 0 3000000 (by omega) (by omega)
      · simpa [fnS] using m2
      · simp only [impl_reduced_su.l1, impl_reduced_su.b1]
        have h1 : (i : Int) < (d : Int) := by omega
        have h2 : (0 : Int) ≤ i ∧ (i : Int) < (d : Int) := by omega
        have h3 : (0 : Int) ≤ (0 : Int) ∧ (0 : Int) ≤ (8 : Int) ∧ (8 : Int) ≤ ((8 + 1 : Nat) : Int) := ⟨by omega, by omega, by omega⟩
        have b1 : (i + 1) * 8 ≤ 140737488355328 := by omega
        simp only [h1, h2, h3, b1, r3.len i (by omega), decide_true, if_true, and_self, Int.toNat_natCast, Nat.zero_add, Nat.mul_one, Nat.add_zero, nx' (show i < 100000000 by omega), fnS]
      · simp only [impl_reduced_su.l1, impl_reduced_su.b1, Int.lt_irrefl, decide_false, Bool.false_eq_true, if_false, impl_reduced_su.a1_0]
  · rw [fnS_row hk hi]; exact r3.ent k i (by omega) (by omega)
  · obtain ⟨k, hk, rfl⟩ := hh
    exact (Sp.of ⟨k, hk, rfl⟩).cg (rw1 k hk)
  · obtain ⟨k, hk, rfl⟩ := hh
    exact (Sp.of ⟨k, hk, rfl⟩).cg (rw2 k hk).symm
  · obtain ⟨k, hk, rfl⟩ := hh
    exact (Sp.of ⟨k, hk, rfl⟩).cg (rw2 k hk)
  · obtain ⟨k, hk, rfl⟩ := hh
    exact (Sp.of ⟨k, hk, rfl⟩).cg (rw1 k hk).symm
theorem RedG.same (hp : 1 < p) {m m' : Nat} {g g' : Nat → Int} {l l' : Nat → Nat} (h : RedG p m g l) (h' : RedG p m' g' l') (a : Sub p 8 (Rw m (rw8 g)) (Rw m' (rw8 g'))) (b : Sub p 8 (Rw m' (rw8 g')) (Rw m (rw8 g))) :
    m = m' ∧ ∀ z, z < m * 8 → g z = g' z := by
  obtain ⟨e, s⟩ := h.red.same hp h'.red (fun k hk => a _ ⟨k, hk, rfl⟩) (fun k hk => b _ ⟨k, hk, rfl⟩)
  subst e
  refine ⟨rfl, fun z hz => ?_⟩
  have hk : z / 8 < m := by omega
  have := (s (z / 8) hk).2.eq_of (h.ent _ hk) (h'.ent _ hk) (z % 8) (by omega)
  unfold rw8 at this
  rwa [show z / 8 * 8 + z % 8 = z by omega] at this
theorem reduced_same (hp : isP p = true) {L L' : Nat → Int} {a : Nat} (hN : N ≤ 1000000) (hL : ∀ i, i < N → inP p (rw8 L i)) (hLL : ∀ z, z < N * 8 → L' z = L z) :
    ∃ g' : Nat → Int, (∀ K : Nat → (Nat → Int) → Option ρ, impl_reduced_su 3000000 K p N a L' = K (redM p L N).1 g') ∧ ∀ z, z < (redM p L N).1 * 8 → g' z = (redM p L N).2 z := by
  have hr := isP_range hp
  have rr : ∀ k, k < N → ∀ i, i < 8 → rw8 L' k i = rw8 L k i := fun k hk i hi => hLL _ (by omega)
  obtain ⟨d, g', l, h1, h2, h3, h4⟩ := reduced_ok (ρ := ρ) (a := a) hp hN (L := L') (fun i hi z hz => by rw [rr i hi z hz]; exact hL i hi z hz)
  obtain ⟨l', q1, q2, q3⟩ := redM_ok hp hL N (Nat.le_refl N)
  have sL : Sub p 8 (Rw N (rw8 L')) (Rw N (rw8 L)) := by
    rintro r ⟨k, hk, rfl⟩; exact (Sp.of ⟨k, hk, rfl⟩).cg (Cg.of_eq (rr k hk))
  have sL' : Sub p 8 (Rw N (rw8 L)) (Rw N (rw8 L')) := by
    rintro r ⟨k, hk, rfl⟩; exact (Sp.of ⟨k, hk, rfl⟩).cg (Cg.of_eq (rr k hk)).symm
  obtain ⟨e, s⟩ := h2.same (by omega) q1 (h3.trans (sL.trans q3)) (q2.trans (sL'.trans h4))
  refine ⟨g', fun K => by rw [h1 K, e], fun z hz => s z (by omega)⟩
end
end Go.Proofs.YtoeailachidcdaaGreatDoor.H
namespace Go.Proofs.YtoeailachidcdaaGreatDoor.H
open Go Go.RowKit Go.Proofs.YtoeailachidcdaaGreatDoor.Hg
set_option linter.unusedVariables false
set_option linter.unusedSimpArgs false
set_option maxRecDepth 100000
section
variable {ρ : Type}
def allV (p n : Int) (m : Nat) (g : Nat → Int) : Bool := allN (fun i => vecB p n (rw8 g i)) 0 m
theorem vecB_same {p n : Int} {v w : Nat → Int} (h : ∀ z, z < 8 → v z = w z) : vecB p n v = vecB p n w := by
  unfold vecB
  refine allN_congr fun j _ hj => ?_
  rw [h j (by omega)]
theorem allV_congr {p n : Int} {m : Nat} {g g' : Nat → Int} (h : ∀ z, z < m * 8 → g z = g' z) : allV p n m g = allV p n m g' := by
  unfold allV
  exact allN_congr fun i _ hi => vecB_same fun z hz => h _ (by omega)
theorem vecB_in {p n : Int} {v : Nat → Int} (h : vecB p n v = true) (hb : ∀ i, i < 8 → 0 ≤ v i ∧ v i ≤ 255) : inP p v := by
  intro i hi
  unfold vecB at h
  rw [allN_true] at h
  have := h i (by omega) (by omega)
  simp only [Bool.and_eq_true, Bool.not_eq_true', decide_eq_false_iff_not] at this
  have h1 := this.1
  have h2 := hb i hi
  rw [wrap64_id (by omega) (by omega)] at h1
  omega
theorem many_eq (K : Int → Option ρ) {p n : Int} {m a : Nat} {g : Nat → Int} (hm : m ≤ 1000000) : spec_l01Many_su 3000000 K p n m a g = K (if (sizB p n && allV p n m g) = true then 0 else 1) := by
  unfold spec_l01Many_su spec_l01Many_su.s
  rw [spec_sizes]
  cases hs : sizB p n
  · rfl
  · simp only [Bool.not_true, Bool.false_eq_true, if_false, Bool.true_and]
    refine Eq.trans (all_at (n := m) (no := K 1) (out := K 0) (fun i => vecB p n (rw8 g i)) (fun q i hi => ?_) (fun q => ?_) (by omega)) ?_
    · simp only [spec_l01Many_su.l0, spec_l01Many_su.b0]
      have h1 : (i : Int) < (m : Int) := by omega
      have h2 : (0 : Int) ≤ i ∧ (i : Int) < (m : Int) := by omega
      simp only [h1, h2, decide_true, if_true, and_self, Int.toNat_natCast, Nat.zero_add, nx' (show i < 100000000 by omega), spec_vector]
      show (if (!vecB p n (rw8 g i)) = true then _ else _) = _
      cases vecB p n (rw8 g i) <;> rfl
    · simp only [spec_l01Many_su.l0, spec_l01Many_su.b0, Int.lt_irrefl, decide_false, Bool.false_eq_true, if_false, spec_l01Many_su.a0_0]
    · show _ = K (if allV p n m g = true then 0 else 1)
      unfold allV
      cases allN (fun i => vecB p n (rw8 g i)) 0 m <;> rfl
theorem wrong_eq (K : Bool → Option ρ) {p n : Int} {m a : Nat} {g : Nat → Int} (hm : m ≤ 1000000) : slices_ContainsFunc_suf 3000000 K m a g (fun _ => p) (fun _ => n) = K (!allN (fun i => sizB p n && vecB p n (rw8 g i)) 0 m) := by
  unfold slices_ContainsFunc_suf slices_IndexFunc_suf slices_IndexFunc_suf.s
  simp only [Nat.zero_add]
  refine Eq.trans (all_at (n := m) (no := K true) (out := K false) (fun i => sizB p n && vecB p n (rw8 g i)) (fun q i hi => ?_) (fun q => ?_) (by omega)) ?_
  · simp only [slices_IndexFunc_suf.l0, slices_IndexFunc_suf.b0, impl_ReduceVectors_c1, impl_isVector]
    have h1 : (i : Int) < (m : Int) := by omega
    have h2 : (0 : Int) ≤ i ∧ (i : Int) < (m : Int) := by omega
    have h3 : (i : Int) ≥ 0 := by omega
    simp only [h1, h2, h3, decide_true, if_true, and_self, Int.toNat_natCast, Nat.zero_add, nx' (show i < 100000000 by omega)]
    show (if (!(sizB p n && vecB p n (rw8 g i))) = true then _ else _) = _
    cases (sizB p n && vecB p n (rw8 g i)) <;> rfl
  · simp only [slices_IndexFunc_suf.l0, slices_IndexFunc_suf.b0, Int.lt_irrefl, decide_false, Bool.false_eq_true, if_false, slices_IndexFunc_suf.a0_0]
    rfl
  · cases allN (fun i => sizB p n && vecB p n (rw8 g i)) 0 m <;> rfl
theorem zeroV {p n : Int} (h : sizB p n = true) : vecB p n (fun _ => 0) = true := by
  unfold sizB at h
  simp only [Bool.and_eq_true] at h
  have hr := isP_range h.1
  unfold vecB
  rw [allN_true]
  intro j _ _
  have : ¬ IntKind.i64.wrap (0 : Int) ≥ p := by rw [wrap64_id (by omega) (by omega)]; omega
  simp [this]
theorem spec_redM {p : Int} {L : Nat → Int} {m a : Nat} (hp : isP p = true) (hm : m ≤ 1000000) (hL : ∀ i, i < m → inP p (rw8 L i)) (K : Nat → (Nat → Int) → Option ρ) : spec_l01Reduce_su 3000000 K p m a L = K (redM p L m).1 (redM p L m).2 := by
  unfold spec_l01Reduce_su spec_l01Reduce_su.s
  have main := loop_st (l := fun F (i : Nat) (s : Nat × (Nat → Int)) => spec_l01Reduce_su.l0 3000000 K p m L (fun ov11 ov12 => spec_l01Reduce_su.a0_0 3000000 K ov11 ov12) F s.1 (i : Int) s.2) (n := m) (out := K (redM p L m).1 (redM p L m).2) (fun i => redM p L i) (fun q i hi => ?_) (fun q => ?_) m 0 3000000 (by omega) (by omega)
  · exact main
  · simp only [spec_l01Reduce_su.l0, spec_l01Reduce_su.b0]
    have h1 : (i : Int) < (m : Int) := by omega
    have h2 : (0 : Int) ≤ i ∧ (i : Int) < (m : Int) := by omega
    simp only [h1, h2, decide_true, if_true, and_self, Int.toNat_natCast, Nat.zero_add, nx' (show i < 100000000 by omega)]
    obtain ⟨l, r1, _, _⟩ := redM_ok hp hL i (by omega)
    have := spec_put (ρ := ρ) hp r1 (hL i hi) (fun r gg => spec_l01Reduce_su.l0 3000000 K p m L (fun ov11 ov12 => spec_l01Reduce_su.a0_0 3000000 K ov11 ov12) q r ((i + 1 : Nat) : Int) gg) (c := (redM p L i).1 * 8)
    simp only [Nat.zero_add] at this
    exact this
  · simp only [spec_l01Reduce_su.l0, spec_l01Reduce_su.b0, Int.lt_irrefl, decide_false, Bool.false_eq_true, if_false, spec_l01Reduce_su.a0_0]
def good (p n : Int) (m : Nat) (g : Nat → Int) (rn : Nat) (rg : Nat → Int) : Prop :=
  isP p = true ∧ sizB p n = true ∧ allV p n m g = true ∧ ∃ l, RedG p rn rg l ∧ Sub p 8 (Rw rn (rw8 rg)) (Rw m (rw8 g)) ∧ Sub p 8 (Rw m (rw8 g)) (Rw rn (rw8 rg))
theorem v2_gen (N : Nat) {p n : Int} {m a : Nat} {g : Nat → Int} (X : Nat → Int → (Nat → Int) → Option ρ) : impl_ReduceVectors_su_v2.bdy N X p n m a g = impl_ReduceVectors_su.bdy N X p n m a g := by kernel_rfl
theorem v2_same {p n : Int} {m a : Nat} {g : Nat → Int} (X : Nat → Int → (Nat → Int) → Option ρ) : impl_ReduceVectors_su_v2 3000000 X p n m a g = impl_ReduceVectors_su 3000000 X p n m a g :=
  (impl_ReduceVectors_su_v2.opq ..).trans ((v2_gen 3000000 X).trans (impl_ReduceVectors_su.opq ..).symm)
theorem both_su {p n : Int} {m : Nat} {g : Nat → Int} (hm : m ≤ 1000000) (hg : ∀ z, z < m * 8 → 0 ≤ g z ∧ g z ≤ 255) :
    ∃ (rn : Nat) (rc : Int) (rg : Nat → Int), rn ≤ 8 ∧ (rc = 0 ∧ good p n m g rn rg ∨ rc = 1 ∧ ¬ (sizB p n = true ∧ allV p n m g = true)) ∧
      (∀ (a : Nat) (g' : Nat → Int), (∀ z, z < m * 8 → g' z = g z) → ∃ rg' : Nat → Int, (∀ z, z < rn * 8 → rg' z = rg z) ∧ ∀ X : Nat → Int → (Nat → Int) → Option ρ, spec_ReduceVectors_su 3000000 X p n m a g' = X rn rc rg') ∧
      (∀ (a : Nat) (g' : Nat → Int), (∀ z, z < m * 8 → g' z = g z) → ∃ rg' : Nat → Int, (∀ z, z < rn * 8 → rg' z = rg z) ∧ ∀ X : Nat → Int → (Nat → Int) → Option ρ, impl_ReduceVectors_su 3000000 X p n m a g' = X rn rc rg') := by
  by_cases hs : sizB p n = true
  · have hp : isP p = true := by
      have := hs
      unfold sizB at this
      simp only [Bool.and_eq_true] at this
      exact this.1
    have hr := isP_range hp
    by_cases hv : allV p n m g = true
    · have hL : ∀ i, i < m → inP p (rw8 g i) := fun i hi => by
        unfold allV at hv
        rw [allN_true] at hv
        exact vecB_in (hv i (by omega) (by omega)) fun j hj => hg _ (by omega)
      obtain ⟨l, r1, r2, r3⟩ := redM_ok hp hL m (Nat.le_refl m)
      refine ⟨(redM p g m).1, 0, (redM p g m).2, r1.red.many, .inl ⟨rfl, hp, hs, hv, l, r1, r2, r3⟩, fun a g' hgg => ?_, fun a g' hgg => ?_⟩
      · have hL' : ∀ i, i < m → inP p (rw8 g' i) := fun i hi z hz => by
          have := hL i hi z hz
          unfold rw8 at *
          rw [hgg _ (by omega)]; exact this
        obtain ⟨l', q1, q2, q3⟩ := redM_ok hp hL' m (Nat.le_refl m)
        have sL : Sub p 8 (Rw m (rw8 g')) (Rw m (rw8 g)) := by
          rintro r ⟨k, hk, rfl⟩; exact (Sp.of ⟨k, hk, rfl⟩).cg (Cg.of_eq fun i hi => hgg _ (by omega))
        have sL' : Sub p 8 (Rw m (rw8 g)) (Rw m (rw8 g')) := by
          rintro r ⟨k, hk, rfl⟩; exact (Sp.of ⟨k, hk, rfl⟩).cg (Cg.of_eq fun i hi => (hgg _ (by omega)).symm)
        obtain ⟨e, s⟩ := q1.same (by omega) r1 (q2.trans (sL.trans r3)) (r2.trans (sL'.trans q3))
        refine ⟨(redM p g' m).2, fun z hz => s z (by omega), fun X => ?_⟩
        rw [spec_ReduceVectors_su.opq]
        unfold spec_ReduceVectors_su.bdy
        simp only [Nat.zero_add]
        rw [many_eq _ hm]
        simp only [allV_congr hgg, hs, hv, Bool.and_self, if_true, bne_self_eq_false, Bool.false_eq_true, if_false]
        rw [spec_redM hp hm hL', e]
      · obtain ⟨gg, h1, h2⟩ := reduced_same (ρ := ρ) (a := m * 8) hp hm hL (L' := g') hgg
        refine ⟨gg, h2, fun X => ?_⟩
        rw [impl_ReduceVectors_su.opq]
        unfold impl_ReduceVectors_su.bdy
        simp only [Nat.zero_add]
        rw [wrong_eq _ hm]
        simp only [impl_isVector, hs, zeroV hs, Bool.true_and, Bool.not_true, Bool.false_eq_true, if_false]
        have : allN (fun i => vecB p n (rw8 g' i)) 0 m = true := by
          have := allV_congr (p := p) (n := n) hgg
          unfold allV at this hv
          rw [this, hv]
        simp only [this, Bool.not_true, Bool.false_eq_true, if_false]
        exact h1 _
    · have hv' : allV p n m g = false := by simpa using hv
      refine ⟨0, 1, fun _ => 0, by omega, .inr ⟨rfl, fun h => hv h.2⟩, fun a g' hgg => ⟨fun _ => 0, fun z hz => rfl, fun X => ?_⟩, fun a g' hgg => ⟨fun _ => 0, fun z hz => rfl, fun X => ?_⟩⟩
      · rw [spec_ReduceVectors_su.opq]
        unfold spec_ReduceVectors_su.bdy
        simp only [Nat.zero_add]
        rw [many_eq _ hm]
        simp only [allV_congr hgg, hv', Bool.and_false, Bool.false_eq_true, if_false]
        rfl
      · rw [impl_ReduceVectors_su.opq]
        unfold impl_ReduceVectors_su.bdy
        simp only [Nat.zero_add]
        rw [wrong_eq _ hm]
        have : allN (fun i => vecB p n (rw8 g' i)) 0 m = false := by
          have := allV_congr (p := p) (n := n) hgg
          unfold allV at this hv'
          rw [this, hv']
        simp only [impl_isVector, hs, zeroV hs, Bool.true_and, this, Bool.not_true, Bool.not_false, Bool.false_eq_true, if_false, if_true]
  · have hs' : sizB p n = false := by simpa using hs
    refine ⟨0, 1, fun _ => 0, by omega, .inr ⟨rfl, fun h => hs h.1⟩, fun a g' hgg => ⟨fun _ => 0, fun z hz => rfl, fun X => ?_⟩, fun a g' hgg => ⟨fun _ => 0, fun z hz => rfl, fun X => ?_⟩⟩
    · rw [spec_ReduceVectors_su.opq]
      unfold spec_ReduceVectors_su.bdy
      rw [many_eq _ hm]
      simp only [hs', Bool.false_and, Bool.false_eq_true, if_false]
      rfl
    · rw [impl_ReduceVectors_su.opq]
      unfold impl_ReduceVectors_su.bdy
      rw [wrong_eq _ hm]
      simp only [impl_isVector, hs', Bool.false_and, Bool.not_false, if_true]
theorem Sp.zer {p : Int} {N i : Nat} (hi : i < N) {G : (Nat → Int) → Prop} (hG : ∀ r, G r → p ∣ r i) {v : Nat → Int} (h : Sp p N G v) : p ∣ v i := by
  induction h with
  | zero h => have := h i hi; simpa using this
  | @add v w r a hv hr h ih =>
    obtain ⟨t, e⟩ := h i hi
    have := Int.dvd_add (Int.dvd_add (Int.dvd_mul_right p t) ih) (Int.dvd_mul_of_dvd_right (b := a) (hG r hr))
    exact dvd_of_eq this (by rw [← e]; simp only; omega)
theorem rows_fit {p n : Int} {m : Nat} {g : Nat → Int} {rn : Nat} {rg : Nat → Int} (h : good p n m g rn rg) (hg : ∀ z, z < m * 8 → 0 ≤ g z ∧ g z ≤ 255) : allV p n rn rg = true := by
  obtain ⟨hp, hs, hv, l, r1, r2, r3⟩ := h
  have hr := isP_range hp
  unfold allV
  refine allN_true.2 fun k _ hk => ?_
  unfold vecB
  refine allN_true.2 fun j _ hj => ?_
  have hin := r1.ent k (by omega) j (by omega)
  rw [wrap64_id (by omega) (by omega)]
  have q1 : ¬ rw8 rg k j ≥ p := by omega
  by_cases hjn : (j : Int) ≥ n
  · have hz : p ∣ rw8 rg k j := by
      refine Sp.zer (N := 8) (by omega) (fun r hh => ?_) (r2 _ ⟨k, by omega, rfl⟩)
      obtain ⟨i, hi, rfl⟩ := hh
      unfold allV at hv
      have q := allN_true.1 hv i (by omega) (by omega)
      unfold vecB at q
      have q := allN_true.1 q j (by omega) (by omega)
      simp only [Bool.and_eq_true, Bool.or_eq_true, Bool.not_eq_true', decide_eq_false_iff_not] at q
      rcases q.2 with q | q
      · exact absurd hjn q
      · have : rw8 g i j = 0 := by simpa using q
        rw [this]; exact Int.dvd_zero _
    have z0 : rw8 rg k j = 0 := zero_of hz hin.1 hin.2
    rw [decide_eq_false q1]
    simp [z0]
  · simp [q1, hjn]
theorem good_bytes {p n : Int} {m : Nat} {g : Nat → Int} {rn : Nat} {rg : Nat → Int} (h : good p n m g rn rg) : ∀ z, z < rn * 8 → 0 ≤ rg z ∧ rg z ≤ 255 := fun z hz => by
  obtain ⟨hp, hs, hv, l, r1, r2, r3⟩ := h
  have hr := isP_range hp
  have := r1.ent (z / 8) (by omega) (z % 8) (by omega)
  unfold rw8 at this
  rw [show z / 8 * 8 + z % 8 = z by omega] at this
  omega
theorem good_same {p n : Int} {m m' : Nat} {g g' : Nat → Int} {rn rn' : Nat} {rg rg' : Nat → Int} (h : good p n m g rn rg) (h' : good p n m' g' rn' rg') (a : Sub p 8 (Rw m (rw8 g)) (Rw m' (rw8 g'))) (b : Sub p 8 (Rw m' (rw8 g')) (Rw m (rw8 g))) :
    rn = rn' ∧ ∀ z, z < rn * 8 → rg z = rg' z := by
  obtain ⟨hp, _, _, l, r1, r2, r3⟩ := h
  obtain ⟨_, _, _, l', q1, q2, q3⟩ := h'
  have hr := isP_range hp
  exact r1.same (by omega) q1 (r2.trans (a.trans q3)) (q2.trans (b.trans r3))
theorem vec5_same (K : Bool → Option ρ) {m a b : Nat} {g g' : Nat → Int} (hm : m ≤ 1000) (h : ∀ z, z < m * 8 → g z = g' z) : laws_vectors5_susu 3000000 K m m a g b g' = K true := by
  rw [laws_vectors5_susu.opq]
  unfold laws_vectors5_susu.bdy laws_vectors5_susu.s
  rw [if_neg (by simp)]
  refine loop_go (l := fun q i => laws_vectors5_susu.l0 3000000 K m m g g' (laws_vectors5_susu.a0_0 3000000 K) q (i : Int)) (n := m) (fun q i hi => ?_) (fun q => ?_) m 0 3000000 (by omega) (by omega)
  · simp only [laws_vectors5_susu.l0, laws_vectors5_susu.b0]
    have h1 : (i : Int) < (m : Int) := by omega
    have h2 : (0 : Int) ≤ i ∧ (i : Int) < (m : Int) := by omega
    have h3 : eqN 8 (fun z => g (i * 8 + z)) (fun z => g' (i * 8 + z)) = true := by
      unfold eqN
      exact decide_eq_true fun z hz => h _ (by omega)
    simp only [h1, h2, decide_true, if_true, and_self, Int.toNat_natCast, Nat.zero_add, h3, Bool.not_true, Bool.false_eq_true, if_false, nx' (show i < 100000000 by omega)]
  · simp only [laws_vectors5_susu.l0, laws_vectors5_susu.b0, Int.lt_irrefl, decide_false, Bool.false_eq_true, if_false]
    rfl
end
end Go.Proofs.YtoeailachidcdaaGreatDoor.H
namespace Go.Proofs.YtoeailachidcdaaGreatDoor.H
open Go Go.RowKit Go.Proofs.YtoeailachidcdaaGreatDoor.Hg
set_option linter.unusedVariables false
set_option linter.unusedSimpArgs false
set_option maxRecDepth 100000
section
variable {ρ : Type}
def frH (c : Nat) (g : Nat → Int) : Nat → Nat → Int
  | 0 => fun _ => IntKind.u64.wrap (11071 + IntKind.u64.wrap (c : Int))
  | i + 1 => fun _ => IntKind.u64.wrap (IntKind.u64.wrap (IntKind.u64.wrap (frH c g i 0 * 1099511628211) + IntKind.u64.wrap (g i)) + 47)
theorem from_eq (K : Nat → (Nat → Int) → (Nat → Int) → Option ρ) {c w : Nat} {g : Nat → Int} (hc : c ≤ 4096) : spec_l01From_su 3000000 K c w g = K c (fun _ => 0) (frH c g c) := by
  unfold spec_l01From_su spec_l01From_su.s
  refine loop_at (n := c) (frH c g) rfl (fun q i hi => ?_) (fun q => ?_) (by omega)
  · simp only [spec_l01From_su.l0, spec_l01From_su.b0]
    have h1 : (i : Int) < (c : Int) := by omega
    have h2 : (0 : Int) ≤ i ∧ (i : Int) < (c : Int) := by omega
    have h3 : (i : Int) < 4096 := by omega
    simp only [h1, h2, h3, decide_true, if_true, and_self, Int.toNat_natCast, Nat.zero_add, Nat.mul_one, nx' (show i < 100000000 by omega), frH]
  · simp only [spec_l01From_su.l0, spec_l01From_su.b0, Int.lt_irrefl, decide_false, Bool.false_eq_true, if_false, spec_l01From_su.a0_0]
theorem low24 (a : BitVec (IntKind.u64).bits) : (a &&& BitVec.ofInt (IntKind.u64).bits 16777215).toNat ≤ 16777215 := by
  rw [BitVec.toNat_and]
  exact Nat.and_le_right
theorem next_ex {c cc : Nat} {n : Int} {at0 h : Nat → Int} {g : Nat → Int} (hc : c ≤ 4096) (hg : ∀ z, 0 ≤ g z ∧ g z ≤ 255) (h0 : 0 ≤ at0 0) (hn : 1 ≤ n) :
    ∃ (r : Nat) (a1 h1 : Nat → Int), (r : Int) < n ∧ 0 ≤ a1 0 ∧ ∀ K : Int → (Nat → Int) → (Nat → Int) → Option ρ, spec_l01Next 3000000 K n c at0 h cc g = K (r : Int) a1 h1 := by
  have hn' : ¬ n < 1 := by omega
  have hn0 : ¬ n = 0 := by omega
  have E : ∀ y : Int, 0 ≤ y → ∃ r : Nat, (r : Int) < n ∧ Int.tmod y n = (r : Int) := fun y hy => by
    have h1 := Int.tmod_eq_emod_of_nonneg (b := n) hy
    have h2 := Int.emod_nonneg y hn0
    have h3 := Int.emod_lt_of_pos y (show 0 < n by omega)
    exact ⟨(Int.tmod y n).toNat, by omega, by omega⟩
  have L := low24 (BitVec.ofInt (IntKind.u64).bits (Int.fdiv (IntKind.u64.wrap ((IntKind.u64.wrap ((h 0) * 6364136223846793005)) + 1442695040888963407)) 8589934592))
  have U : ∀ y : Nat, y ≤ 16777215 → IntKind.u64.wrap (y : Int) = (y : Int) := fun y hy => by
    simp only [IntKind.wrap, IntKind.bits, IntKind.signed]
    first | omega | (simp; omega)
  by_cases ha : at0 0 < (c : Int)
  · have hgz := hg (at0 0).toNat
    have h2 : (0 : Int) ≤ at0 0 ∧ at0 0 < (c : Int) := ⟨h0, ha⟩
    obtain ⟨r, r1, r2⟩ := E (((BitVec.ofInt (IntKind.u64).bits (Int.fdiv (IntKind.u64.wrap ((IntKind.u64.wrap ((h 0) * 6364136223846793005)) + 1442695040888963407)) 8589934592) &&& BitVec.ofInt (IntKind.u64).bits 16777215).toNat : Int) + g (at0 0).toNat) (by omega)
    refine ⟨r, fun _ => IntKind.i64.wrap (at0 0 + 1), fun _ => IntKind.u64.wrap ((IntKind.u64.wrap ((h 0) * 6364136223846793005)) + 1442695040888963407), r1, ?_, fun K => ?_⟩
    rotate_left
    · rw [spec_l01Next.opq]
      unfold spec_l01Next.bdy
      simp only [hn', hn0, ha, h2, decide_false, decide_true, Bool.false_eq_true, if_false, if_true, and_self, Nat.zero_add, Nat.mul_one]
      rw [U _ L, wrap64_id (x := g (at0 0).toNat) (by omega) (by omega)]
      rw [wrap64_id (x := (((BitVec.ofInt (IntKind.u64).bits (Int.fdiv (IntKind.u64.wrap ((IntKind.u64.wrap ((h 0) * 6364136223846793005)) + 1442695040888963407)) 8589934592) &&& BitVec.ofInt (IntKind.u64).bits 16777215).toNat : Nat) : Int)) (by omega) (by omega), wrap64_id (by omega) (by omega), r2]
    · show 0 ≤ IntKind.i64.wrap (at0 0 + 1)
      rw [wrap64_id (by omega) (by omega)]; omega
  · obtain ⟨r, r1, r2⟩ := E (((BitVec.ofInt (IntKind.u64).bits (Int.fdiv (IntKind.u64.wrap ((IntKind.u64.wrap ((h 0) * 6364136223846793005)) + 1442695040888963407)) 8589934592) &&& BitVec.ofInt (IntKind.u64).bits 16777215).toNat : Int)) (by omega)
    refine ⟨r, at0, fun _ => IntKind.u64.wrap ((IntKind.u64.wrap ((h 0) * 6364136223846793005)) + 1442695040888963407), r1, h0, fun K => ?_⟩
    rw [spec_l01Next.opq]
    unfold spec_l01Next.bdy
    simp only [hn', hn0, ha, decide_false, decide_true, Bool.false_eq_true, if_false, if_true, and_self, Nat.zero_add, Nat.mul_one]
    rw [U _ L, wrap64_id (by omega) (by omega), r2]
theorem pick_ex {c cc M w w2 : Nat} {L : Nat → Int} {at0 h : Nat → Int} {g : Nat → Int} (hc : c ≤ 4096) (hg : ∀ z, 0 ≤ g z ∧ g z ≤ 255) (h0 : 0 ≤ at0 0) (hM : 1 ≤ M) :
    ∃ (r : Nat) (a1 h1 : Nat → Int), r < M ∧ 0 ≤ a1 0 ∧ ∀ K : Int → (Nat → Int) → (Nat → Int) → Option ρ, spec_l01Pick_s 3000000 K M w c at0 h w2 L cc g = K (L r) a1 h1 := by
  obtain ⟨r, a1, h1, b1, c1, e1⟩ := next_ex (ρ := ρ) (cc := c) (n := (M : Int)) (h := h) hc hg h0 (by omega)
  have hr : r < M := by omega
  refine ⟨r, a1, h1, hr, c1, fun K => ?_⟩
  have g1 : (0 : Int) ≤ r ∧ (r : Int) < (M : Int) := by omega
  unfold spec_l01Pick_s
  simp only [Nat.zero_add, Nat.mul_one, e1, g1, and_self, if_true, Int.toNat_natCast]
def primes9 : Nat → Int := upd (upd (upd (upd (upd (upd (upd (upd (upd (fun _ => 0) 0 2) 1 2) 2 3) 3 3) 4 5) 5 5) 6 7) 7 11) 8 31
theorem primes9_ok {r : Nat} (h : r < 9) : isP (primes9 r) = true := by
  have : r = 0 ∨ r = 1 ∨ r = 2 ∨ r = 3 ∨ r = 4 ∨ r = 5 ∨ r = 6 ∨ r = 7 ∨ r = 8 := by omega
  rcases this with rfl | rfl | rfl | rfl | rfl | rfl | rfl | rfl | rfl <;> rfl
theorem prime_ex {c cc : Nat} {at0 h : Nat → Int} {g : Nat → Int} (hc : c ≤ 4096) (hg : ∀ z, 0 ≤ g z ∧ g z ≤ 255) (h0 : 0 ≤ at0 0) :
    ∃ (p : Int) (a1 h1 : Nat → Int), isP p = true ∧ 0 ≤ a1 0 ∧ ∀ K : Int → (Nat → Int) → (Nat → Int) → Option ρ, spec_l01DrawPrime 3000000 K c at0 h cc g = K p a1 h1 := by
  obtain ⟨r, a1, h1, b1, c1, e1⟩ := pick_ex (ρ := ρ) (cc := c * 1) (M := 9) (w := 9) (w2 := 9) (L := fun z => primes9 (0 + z)) (h := h) (g := fun z => g (0 + z)) hc (fun z => hg _) h0 (by omega)
  refine ⟨primes9 (0 + r), a1, h1, primes9_ok (by omega), c1, fun K => ?_⟩
  unfold spec_l01DrawPrime
  exact e1 _
theorem vec_loop {c : Nat} {p n : Int} {g : Nat → Int} (hc : c ≤ 4096) (hg : ∀ z, 0 ≤ g z ∧ g z ≤ 255) (hp : 2 ≤ p) (hp' : p ≤ 31) : ∀ (k i m : Nat) (at0 h v : Nat → Int), i + k = 8 → k < m → 0 ≤ at0 0 → (∀ z, 0 ≤ v z ∧ v z < p) →
    ∃ (v' a' h' : Nat → Int), (∀ z, 0 ≤ v' z ∧ v' z < p) ∧ 0 ≤ a' 0 ∧ ∀ K : (Nat → Int) → (Nat → Int) → (Nat → Int) → Option ρ, spec_l01DrawVector.l0 3000000 K p n c g (fun ov17 ov18 ov19 => spec_l01DrawVector.a0_0 3000000 K ov17 ov18 ov19) m (i : Int) at0 h v = K v' a' h'
  | 0, i, m, at0, h, v, hi, hm, h0, hv => by
    obtain ⟨m, rfl⟩ : ∃ q, m = q + 1 := ⟨m - 1, by omega⟩
    refine ⟨v, at0, h, hv, h0, fun K => ?_⟩
    simp only [spec_l01DrawVector.l0, spec_l01DrawVector.b0]
    have g1 : ¬ (i : Int) < 8 := by omega
    simp only [g1, decide_false, Bool.false_eq_true, if_false, spec_l01DrawVector.a0_0]
    split <;> rfl
  | k + 1, i, m, at0, h, v, hi, hm, h0, hv => by
    obtain ⟨m, rfl⟩ : ∃ q, m = q + 1 := ⟨m - 1, by omega⟩
    simp only [spec_l01DrawVector.l0, spec_l01DrawVector.b0]
    have g1 : (i : Int) < 8 := by omega
    have g2 : (0 : Int) ≤ (i : Int) ∧ (i : Int) < 8 := by omega
    by_cases hn : (i : Int) < n
    · have ew : (if 255 < (if 1 > p then 1 else p) then 255 else (if 1 > p then 1 else p)) = p := by
        rw [if_neg (show ¬ 1 > p by omega), if_neg (by omega)]
      obtain ⟨r, a1, h1, b1, c1, e1⟩ := next_ex (ρ := ρ) (cc := c) (n := 2) (h := h) hc hg h0 (by omega)
      simp only [hn, g1, g2, decide_true, if_true, and_self, Nat.zero_add, Nat.mul_one, e1, ew, Int.toNat_natCast, nx (show i < 100000 by omega)]
      by_cases hr : r = 0
      · subst hr
        obtain ⟨r2, a2, h2, b2, c2, e2⟩ := next_ex (ρ := ρ) (cc := c) (n := p) (h := h1) hc hg c1 (by omega)
        obtain ⟨v', a', h', q1, q2, q3⟩ := vec_loop hc hg hp hp' k (i + 1) m a2 h2 (upd v i (IntKind.u8.wrap (r2 : Int))) (by omega) (by omega) c2 (fun z => by
          unfold upd
          split
          · rw [wrap8_id (by omega) (by omega)]; omega
          · exact hv z)
        refine ⟨v', a', h', q1, q2, fun K => ?_⟩
        simp only [Int.natCast_zero, BEq.rfl, if_true, e2]
        exact q3 K
      · have n0 : ((r : Int) == 0) = false := by simp; omega
        obtain ⟨v', a', h', q1, q2, q3⟩ := vec_loop hc hg hp hp' k (i + 1) m a1 h1 v (by omega) (by omega) c1 hv
        refine ⟨v', a', h', q1, q2, fun K => ?_⟩
        simp only [n0, Bool.false_eq_true, if_false]
        exact q3 K
    · refine ⟨v, at0, h, hv, h0, fun K => ?_⟩
      simp only [hn, decide_false, Bool.false_eq_true, if_false, spec_l01DrawVector.a0_0]
theorem vec_ex {c cc : Nat} {p n : Int} {at0 h : Nat → Int} {g : Nat → Int} (hc : c ≤ 4096) (hg : ∀ z, 0 ≤ g z ∧ g z ≤ 255) (h0 : 0 ≤ at0 0) (hp : isP p = true) :
    ∃ (v a1 h1 : Nat → Int), (∀ z, 0 ≤ v z ∧ v z < p) ∧ 0 ≤ a1 0 ∧ ∀ K : (Nat → Int) → (Nat → Int) → (Nat → Int) → Option ρ, spec_l01DrawVector 3000000 K p n c at0 h cc g = K v a1 h1 := by
  have hr := isP_range hp
  obtain ⟨v, a1, h1, q1, q2, q3⟩ := vec_loop (ρ := ρ) (n := n) hc hg hr.1 hr.2 8 0 3000000 at0 h (fun _ => 0) rfl (by omega) h0 (fun z => by omega)
  exact ⟨v, a1, h1, q1, q2, q3⟩
theorem any_ex {c cc : Nat} {A B : Nat → Int} {at0 h : Nat → Int} {g : Nat → Int} (hc : c ≤ 4096) (hg : ∀ z, 0 ≤ g z ∧ g z ≤ 255) (h0 : 0 ≤ at0 0) (hp : isP (A 0) = true) :
    ∃ (v a1 h1 : Nat → Int), (∀ z, 0 ≤ v z ∧ v z ≤ 255) ∧ 0 ≤ a1 0 ∧ ∀ K : (Nat → Int) → (Nat → Int) → (Nat → Int) → Option ρ, spec_l01Any 3000000 K A B c at0 h cc g = K v a1 h1 := by
  have hr := isP_range hp
  obtain ⟨v, a1, h1, q1, q2, q3⟩ := vec_ex (ρ := ρ) (n := A 1) (cc := c) (h := h) hc hg h0 hp
  obtain ⟨r, a2, h2, b2, c2, e2⟩ := next_ex (ρ := ρ) (cc := c) (n := 30) (h := h1) hc hg q2 (by omega)
  have hv : ∀ z, 0 ≤ v z ∧ v z ≤ 255 := fun z => by have := q1 z; omega
  by_cases hr0 : r = 0
  · subst hr0
    obtain ⟨r3, a3, h3, b3, c3, e3⟩ := next_ex (ρ := ρ) (cc := c) (n := 8) (h := h2) hc hg c2 (by omega)
    obtain ⟨r4, a4, h4, b4, c4, e4⟩ := pick_ex (ρ := ρ) (cc := c) (M := 3) (w := 3) (w2 := 3) (L := fun z => upd (upd (upd (fun _ => 0) 0 1) 1 31) 2 255 z) (h := h3) (g := g) hc hg c3 (by omega)
    have g3 : (0 : Int) ≤ (r3 : Int) ∧ (r3 : Int) < 8 := by omega
    refine ⟨upd v r3 (IntKind.u8.wrap (upd (upd (upd (fun _ => 0) 0 1) 1 31) 2 255 r4)), a4, h4, fun z => ?_, c4, fun K => ?_⟩
    · unfold upd
      split
      · exact wrap8_rng _
      · exact hv z
    · simp only [spec_l01Any, Nat.zero_add, Nat.mul_one, q3, e2, Int.natCast_zero, BEq.rfl, if_true, e3]
      refine (e4 _).trans ?_
      simp only [g3, and_self, if_true, Int.toNat_natCast]
  · have n0 : ((r : Int) == 0) = false := by simp; omega
    refine ⟨v, a2, h2, hv, c2, fun K => ?_⟩
    simp only [spec_l01Any, Nat.zero_add, Nat.mul_one, q3, e2, n0, Bool.false_eq_true, if_false]
theorem near_ex {c cc : Nat} {at0 h : Nat → Int} {g : Nat → Int} (hc : c ≤ 4096) (hg : ∀ z, 0 ≤ g z ∧ g z ≤ 255) (h0 : 0 ≤ at0 0) :
    ∃ (r : Int) (a1 h1 : Nat → Int), 0 ≤ a1 0 ∧ ∀ K : Int → (Nat → Int) → (Nat → Int) → Option ρ, spec_l01Near 3000000 K 7 c at0 h cc g = K r a1 h1 := by
  obtain ⟨r, a1, h1, b1, c1, e1⟩ := next_ex (ρ := ρ) (cc := c) (n := 14) (h := h) hc hg h0 (by omega)
  have e8 : IntKind.i64.wrap ((7 : Int) + 1) = 8 := wrap64_id (by omega) (by omega)
  by_cases hr0 : r = 0
  · subst hr0
    obtain ⟨r4, a4, h4, b4, c4, e4⟩ := pick_ex (ρ := ρ) (cc := c) (M := 4) (w := 4) (w2 := 4) (L := fun z => upd (upd (upd (upd (fun _ => 0) 0 (-1)) 1 8) 2 1099511627776) 3 (-4611686018427387904) z) (h := h1) (g := g) hc hg c1 (by omega)
    refine ⟨upd (upd (upd (upd (fun _ => 0) 0 (-1)) 1 8) 2 1099511627776) 3 (-4611686018427387904) r4, a4, h4, c4, fun K => ?_⟩
    simp only [spec_l01Near, Nat.zero_add, Nat.mul_one, e1, Int.natCast_zero, BEq.rfl, if_true, e8]
    exact e4 _
  · have n0 : ((r : Int) == 0) = false := by simp; omega
    obtain ⟨r4, a4, h4, b4, c4, e4⟩ := next_ex (ρ := ρ) (cc := c) (n := 8) (h := h1) hc hg c1 (by omega)
    refine ⟨(r4 : Int), a4, h4, c4, fun K => ?_⟩
    simp only [spec_l01Near, Nat.zero_add, Nat.mul_one, e1, n0, Bool.false_eq_true, if_false, e8, e4]
theorem drawV_ex {c w : Nat} {g : Nat → Int} (hc : c ≤ 4096) (hg : ∀ z, 0 ≤ g z ∧ g z ≤ 255) :
    ∃ (p n : Int) (v : Nat → Int), (∀ z, 0 ≤ v z ∧ v z ≤ 255) ∧ ∀ K : Int → Int → (Nat → Int) → Option ρ, spec_DrawVectorText_su 3000000 K c w g = K p n v := by
  have z0 : (0 : Int) ≤ (fun _ => 0 : Nat → Int) 0 := Int.le_refl _
  obtain ⟨p, a1, h1, p1, c1, e1⟩ := prime_ex (ρ := ρ) (cc := c) (at0 := fun _ => 0) (h := frH c g c) hc hg z0
  obtain ⟨r, a2, h2, c2, e2⟩ := near_ex (ρ := ρ) (cc := c) (h := h1) hc hg c1
  obtain ⟨v, a3, h3, v3, c3, e3⟩ := any_ex (ρ := ρ) (A := upd (upd (fun _ => 0) 0 p) 1 (IntKind.i64.wrap (1 + r))) (B := fun _ => 0) (cc := c) (h := h2) hc hg c2 (by simpa [upd] using p1)
  refine ⟨p, IntKind.i64.wrap (1 + r), v, v3, fun K => ?_⟩
  rw [spec_DrawVectorText_su.opq]
  simp only [spec_DrawVectorText_su.bdy, spec_DrawIsVector_su, Nat.zero_add, Nat.mul_one, from_eq _ hc, e1, e2, e3]
theorem drawR_loop {c : Nat} {p q : Int} {g : Nat → Int} (hc : c ≤ 4096) (hg : ∀ z, 0 ≤ g z ∧ g z ≤ 255) (hp : isP p = true) : ∀ (k o m : Nat) (at0 h L : Nat → Int), k + o ≤ 5 → k < m → 0 ≤ at0 0 → (∀ z, 0 ≤ L z ∧ L z ≤ 255) →
    ∃ (n : Int) (o' : Nat) (L' : Nat → Int), o' ≤ 5 ∧ (∀ z, 0 ≤ L' z ∧ L' z ≤ 255) ∧ ∀ K : Int → Int → Nat → (Nat → Int) → Option ρ, spec_DrawReduceVectors_su.l0 3000000 K g c p q (fun ov23 ov24 ov25 ov26 => spec_DrawReduceVectors_su.a0_0 3000000 K g c p q ov23 ov24 ov25 ov26) m o (k : Int) at0 h L = K p n o' L'
  | 0, o, m, at0, h, L, ho, hm, h0, hL => by
    obtain ⟨m, rfl⟩ : ∃ q, m = q + 1 := ⟨m - 1, by omega⟩
    have g1 : ¬ ((0 : Nat) : Int) > 0 := by omega
    have g1' : ¬ (0 : Int) > 0 := by omega
    obtain ⟨r, a1, h1, b1, c1, e1⟩ := next_ex (ρ := ρ) (cc := c) (n := 30) (h := h) hc hg h0 (by omega)
    by_cases hr0 : r = 0
    · subst hr0
      obtain ⟨r4, a4, h4, b4, c4, e4⟩ := pick_ex (ρ := ρ) (cc := c) (M := 3) (w := 3) (w2 := 3) (L := fun z => upd (upd (upd (fun _ => 0) 0 0) 1 9) 2 (IntKind.i64.wrap ((IntKind.i64.wrap (1 + q)) - 1)) z) (h := h1) (g := g) hc hg c1 (by omega)
      refine ⟨upd (upd (upd (fun _ => 0) 0 0) 1 9) 2 (IntKind.i64.wrap ((IntKind.i64.wrap (1 + q)) - 1)) r4, o, L, by omega, hL, fun K => ?_⟩
      simp only [spec_DrawReduceVectors_su.l0, spec_DrawReduceVectors_su.b0, g1, g1', decide_false, Bool.false_eq_true, if_false, spec_DrawReduceVectors_su.a0_0, Nat.zero_add, Nat.mul_one, e1, Int.natCast_zero, BEq.rfl, if_true]
      exact e4 _
    · have n0 : ((r : Int) == 0) = false := by simp; omega
      refine ⟨IntKind.i64.wrap (1 + q), o, L, by omega, hL, fun K => ?_⟩
      simp only [spec_DrawReduceVectors_su.l0, spec_DrawReduceVectors_su.b0, g1, decide_false, Bool.false_eq_true, if_false, spec_DrawReduceVectors_su.a0_0, Nat.zero_add, Nat.mul_one, e1, n0]
  | k + 1, o, m, at0, h, L, ho, hm, h0, hL => by
    obtain ⟨m, rfl⟩ : ∃ q, m = q + 1 := ⟨m - 1, by omega⟩
    have g1 : ((k + 1 : Nat) : Int) > 0 := by omega
    have g2 : (o + 1) * 8 ≤ 140737488355328 := by omega
    have g3 : IntKind.i64.wrap (((k + 1 : Nat) : Int) - 1) = (k : Int) := by rw [wrap64_id (by omega) (by omega)]; omega
    obtain ⟨v, a3, h3, v3, c3, e3⟩ := any_ex (ρ := ρ) (A := upd (upd (fun _ => 0) 0 p) 1 (IntKind.i64.wrap (1 + q))) (B := fun _ => 0) (cc := c) (h := h) hc hg h0 (by simpa [upd] using hp)
    obtain ⟨n, o', L', q1, q2, q3⟩ := drawR_loop (p := p) (q := q) hc hg hp k (o + 1) m a3 h3 (joinN (o * 8) L v) (by omega) (by omega) c3 (fun z => by
      unfold joinN
      split
      · exact hL z
      · exact v3 _)
    refine ⟨n, o', L', q1, q2, fun K => ?_⟩
    simp only [spec_DrawReduceVectors_su.l0, spec_DrawReduceVectors_su.b0, g1, g2, g3, decide_true, if_true, Nat.zero_add, Nat.mul_one, e3]
    exact q3 K
theorem drawR_ex {c w : Nat} {g : Nat → Int} (hc : c ≤ 4096) (hg : ∀ z, 0 ≤ g z ∧ g z ≤ 255) :
    ∃ (p n : Int) (m : Nat) (L : Nat → Int), m ≤ 5 ∧ (∀ z, 0 ≤ L z ∧ L z ≤ 255) ∧ ∀ K : Int → Int → Nat → (Nat → Int) → Option ρ, spec_DrawReduceVectors_su 3000000 K c w g = K p n m L := by
  have z0 : (0 : Int) ≤ (fun _ => 0 : Nat → Int) 0 := Int.le_refl _
  obtain ⟨p, a1, h1, p1, c1, e1⟩ := prime_ex (ρ := ρ) (cc := c) (at0 := fun _ => 0) (h := frH c g c) hc hg z0
  obtain ⟨r2, a2, h2, b2, c2, e2⟩ := next_ex (ρ := ρ) (cc := c) (n := 8) (h := h1) hc hg c1 (by omega)
  obtain ⟨r3, a3, h3, b3, c3, e3⟩ := next_ex (ρ := ρ) (cc := c) (n := 6) (h := h2) hc hg c2 (by omega)
  obtain ⟨n, o', L', q1, q2, q3⟩ := drawR_loop (ρ := ρ) (q := (r2 : Int)) hc hg p1 r3 0 3000000 a3 h3 (fun _ => 0) (by omega) (by omega) c3 (fun z => by omega)
  refine ⟨p, n, o', L', q1, q2, fun K => ?_⟩
  rw [spec_DrawReduceVectors_su.opq]
  simp only [spec_DrawReduceVectors_su.bdy, spec_DrawReduceVectors_su.s, Nat.zero_add, Nat.mul_one, from_eq _ hc, e1, e2, e3]
  exact q3 K
def sgn : Nat → ByteArray := fun z => [(ByteArray.mk #[48]), (ByteArray.mk #[49]), (ByteArray.mk #[50]), (ByteArray.mk #[55]), (ByteArray.mk #[51, 49]), (ByteArray.mk #[44]), (ByteArray.mk #[59]), (ByteArray.mk #[45]), (ByteArray.mk #[32]), (ByteArray.mk #[120]), (ByteArray.mk #[10])].getD z ByteArray.empty
theorem sgn_size {r : Nat} (h : r < 11) : (sgn r).size ≤ 2 := by
  have : r = 0 ∨ r = 1 ∨ r = 2 ∨ r = 3 ∨ r = 4 ∨ r = 5 ∨ r = 6 ∨ r = 7 ∨ r = 8 ∨ r = 9 ∨ r = 10 := by omega
  rcases this with rfl | rfl | rfl | rfl | rfl | rfl | rfl | rfl | rfl | rfl | rfl <;> exact of_decide_eq_true (by kernel_rfl)
theorem damage_ex {c cc : Nat} {t : ByteArray} {at0 h : Nat → Int} {g : Nat → Int} (hc : c ≤ 4096) (hg : ∀ z, 0 ≤ g z ∧ g z ≤ 255) (h0 : 0 ≤ at0 0) (ht : t.size ≤ 1000) :
    ∃ (t' : ByteArray) (a1 h1 : Nat → Int), t'.size ≤ t.size + 2 ∧ 0 ≤ a1 0 ∧ ∀ K : ByteArray → (Nat → Int) → (Nat → Int) → Option ρ, spec_l01Damage 3000000 K t c at0 h cc g = K t' a1 h1 := by
  obtain ⟨r, a1, h1, b1, c1, e1⟩ := next_ex (ρ := ρ) (cc := c) (n := 11) (h := h) hc hg h0 (by omega)
  have hr : r < 11 := by omega
  have s2 := sgn_size hr
  have g1 : (0 : Int) ≤ (r : Int) ∧ (r : Int) < 11 := by omega
  have es : ∀ z, [(ByteArray.mk #[48]), (ByteArray.mk #[49]), (ByteArray.mk #[50]), (ByteArray.mk #[55]), (ByteArray.mk #[51, 49]), (ByteArray.mk #[44]), (ByteArray.mk #[59]), (ByteArray.mk #[45]), (ByteArray.mk #[32]), (ByteArray.mk #[120]), (ByteArray.mk #[10])].getD z ByteArray.empty = sgn z := fun z => rfl
  by_cases hz : t.size = 0
  · have gz : ((t.size : Int) == 0) = true := by rw [beq_iff_eq]; omega
    refine ⟨sgn r, a1, h1, by omega, c1, fun K => ?_⟩
    simp only [spec_l01Damage, Nat.zero_add, Nat.mul_one, e1, g1, and_self, if_true, Int.toNat_natCast, gz, es]
  · have gz : ((t.size : Int) == 0) = false := beq_eq_false_iff_ne.2 (by omega)
    obtain ⟨k, a2, h2, b2, c2, e2⟩ := next_ex (ρ := ρ) (cc := c) (n := (t.size : Int)) (h := h1) hc hg c1 (by omega)
    obtain ⟨y, a3, h3, b3, c3, e3⟩ := next_ex (ρ := ρ) (cc := c) (n := 3) (h := h2) hc hg c2 (by omega)
    have hk : k < t.size := by omega
    have ek : IntKind.i64.wrap ((k : Int) + 1) = ((k + 1 : Nat) : Int) := nx (by omega)
    have k1 : (0 : Int) ≤ (0 : Int) ∧ (0 : Int) ≤ (k : Int) ∧ (k : Int) ≤ (t.size : Int) := by omega
    have k2 : (0 : Int) ≤ ((k + 1 : Nat) : Int) ∧ ((k + 1 : Nat) : Int) ≤ (t.size : Int) ∧ (t.size : Int) ≤ (t.size : Int) := by omega
    have k3 : (0 : Int) ≤ (k : Int) ∧ (k : Int) ≤ (t.size : Int) ∧ (t.size : Int) ≤ (t.size : Int) := by omega
    have x1 : (t.extract 0 k).size = k := by rw [ByteArray.size_extract]; omega
    have x2 : (t.extract (k + 1) t.size).size = t.size - (k + 1) := by rw [ByteArray.size_extract]; omega
    have x3 : (t.extract k t.size).size = t.size - k := by rw [ByteArray.size_extract]; omega
    have x4 : (t.extract 0 k ++ sgn r).size = k + (sgn r).size := by rw [ByteArray.size_append, x1]
    have l1 : k + (sgn r).size ≤ 4611686018427387904 := by omega
    have l2 : k + (sgn r).size + (t.size - (k + 1)) ≤ 4611686018427387904 := by omega
    have l3 : k + (t.size - (k + 1)) ≤ 4611686018427387904 := by omega
    have l4 : k + (sgn r).size + (t.size - k) ≤ 4611686018427387904 := by omega
    by_cases y0 : y = 0
    · subst y0
      refine ⟨(t.extract 0 k ++ sgn r) ++ t.extract (k + 1) t.size, a3, h3, by rw [ByteArray.size_append, x4, x2]; omega, c3, fun K => ?_⟩
      simp only [spec_l01Damage, Nat.zero_add, Nat.mul_one, e1, g1, and_self, if_true, Int.toNat_natCast, gz, es, Bool.false_eq_true, if_false, e2, e3, Int.natCast_zero, BEq.rfl, ek, k1, k2, x1, x2, x4, l1, l2]
    · have n0 : ((y : Int) == 0) = false := by simp; omega
      by_cases y1 : y = 1
      · subst y1
        have n0' : ((1 : Int) == 0) = false := rfl
        refine ⟨t.extract 0 k ++ t.extract (k + 1) t.size, a3, h3, by rw [ByteArray.size_append, x1, x2]; omega, c3, fun K => ?_⟩
        simp only [spec_l01Damage, Nat.zero_add, Nat.mul_one, e1, g1, and_self, if_true, Int.toNat_natCast, gz, es, Bool.false_eq_true, if_false, e2, e3, n0, n0', Int.natCast_one, BEq.rfl, ek, k1, k2, x1, x2, l3]
      · have n1 : ((y : Int) == 1) = false := by simp; omega
        refine ⟨(t.extract 0 k ++ sgn r) ++ t.extract k t.size, a3, h3, by rw [ByteArray.size_append, x4, x3]; omega, c3, fun K => ?_⟩
        simp only [spec_l01Damage, Nat.zero_add, Nat.mul_one, e1, g1, and_self, if_true, Int.toNat_natCast, gz, es, Bool.false_eq_true, if_false, e2, e3, n0, n1, k1, k3, x1, x3, x4, l1, l4]
theorem drawP_loop {c : Nat} {p q : Int} {g : Nat → Int} (hc : c ≤ 4096) (hg : ∀ z, 0 ≤ g z ∧ g z ≤ 255) : ∀ (k i m : Nat) (t : ByteArray) (at0 h : Nat → Int), i + k = 6 → k < m → 0 ≤ at0 0 → t.size ≤ 100 + 2 * i →
    ∃ (p' n' : Int) (t' : ByteArray), t'.size ≤ 1000 ∧ ∀ K : Int → Int → ByteArray → Option ρ, spec_DrawParseVector_su.l0 3000000 K g c (fun ov26 ov27 ov28 => spec_DrawParseVector_su.a0_0 3000000 K g c p q ov26 ov27 ov28) m t (i : Int) at0 h = K p' n' t' := by
  have tail : ∀ (t : ByteArray) (at0 h : Nat → Int), 0 ≤ at0 0 → t.size ≤ 1000 → ∃ (p' n' : Int) (t' : ByteArray), t'.size ≤ 1000 ∧ ∀ K : Int → Int → ByteArray → Option ρ, spec_DrawParseVector_su.a0_0 3000000 K g c p q t at0 h = K p' n' t' := fun t at0 h h0 ht => by
    obtain ⟨r, a1, h1, b1, c1, e1⟩ := next_ex (ρ := ρ) (cc := c) (n := 30) (h := h) hc hg h0 (by omega)
    by_cases hr0 : r = 0
    · subst hr0
      obtain ⟨r4, a4, h4, b4, c4, e4⟩ := pick_ex (ρ := ρ) (cc := c) (M := 3) (w := 3) (w2 := 3) (L := fun z => upd (upd (upd (fun _ => 0) 0 4) 1 0) 2 37 z) (h := h1) (g := g) hc hg c1 (by omega)
      refine ⟨upd (upd (upd (fun _ => 0) 0 4) 1 0) 2 37 r4, IntKind.i64.wrap (1 + q), t, ht, fun K => ?_⟩
      simp only [spec_DrawParseVector_su.a0_0, Nat.zero_add, Nat.mul_one, e1, Int.natCast_zero, BEq.rfl, if_true]
      exact e4 _
    · have n0 : ((r : Int) == 0) = false := by simp; omega
      refine ⟨p, IntKind.i64.wrap (1 + q), t, ht, fun K => ?_⟩
      simp only [spec_DrawParseVector_su.a0_0, Nat.zero_add, Nat.mul_one, e1, n0, Bool.false_eq_true, if_false]
  intro k
  induction k with
  | zero =>
    intro i m t at0 h hi hm h0 ht
    obtain ⟨m, rfl⟩ : ∃ q, m = q + 1 := ⟨m - 1, by omega⟩
    have g1 : ¬ (i : Int) < 6 := by omega
    obtain ⟨p', n', t', q1, q2⟩ := tail t at0 h h0 (by omega)
    refine ⟨p', n', t', q1, fun K => ?_⟩
    simp only [spec_DrawParseVector_su.l0, spec_DrawParseVector_su.b0, g1, decide_false, Bool.false_eq_true, if_false]
    exact q2 K
  | succ k ih =>
    intro i m t at0 h hi hm h0 ht
    obtain ⟨m, rfl⟩ : ∃ q, m = q + 1 := ⟨m - 1, by omega⟩
    have g1 : (i : Int) < 6 := by omega
    obtain ⟨r, a1, h1, b1, c1, e1⟩ := next_ex (ρ := ρ) (cc := c) (n := 3) (h := h) hc hg h0 (by omega)
    by_cases hr0 : r = 0
    · subst hr0
      obtain ⟨t2, a2, h2, s2, c2, e2⟩ := damage_ex (ρ := ρ) (cc := c) (h := h1) hc hg c1 (show t.size ≤ 1000 by omega)
      obtain ⟨p', n', t', q1, q2⟩ := ih (i + 1) m t2 a2 h2 (by omega) (by omega) c2 (by omega)
      refine ⟨p', n', t', q1, fun K => ?_⟩
      simp only [spec_DrawParseVector_su.l0, spec_DrawParseVector_su.b0, g1, decide_true, if_true, Nat.zero_add, Nat.mul_one, e1, Int.natCast_zero, BEq.rfl, e2, nx (show i < 100000 by omega)]
      exact q2 K
    · have n0 : ((r : Int) == 0) = false := by simp; omega
      obtain ⟨p', n', t', q1, q2⟩ := tail t a1 h1 c1 (by omega)
      refine ⟨p', n', t', q1, fun K => ?_⟩
      simp only [spec_DrawParseVector_su.l0, spec_DrawParseVector_su.b0, g1, decide_true, if_true, Nat.zero_add, Nat.mul_one, e1, n0, Bool.false_eq_true, if_false]
      exact q2 K
theorem drawP_ex {c w : Nat} {g : Nat → Int} (hc : c ≤ 4096) (hg : ∀ z, 0 ≤ g z ∧ g z ≤ 255) :
    ∃ (p n : Int) (t : ByteArray), t.size ≤ 1000 ∧ ∀ K : Int → Int → ByteArray → Option ρ, spec_DrawParseVector_su 3000000 K c w g = K p n t := by
  have z0 : (0 : Int) ≤ (fun _ => 0 : Nat → Int) 0 := Int.le_refl _
  obtain ⟨p, a1, h1, p1, c1, e1⟩ := prime_ex (ρ := ρ) (cc := c) (at0 := fun _ => 0) (h := frH c g c) hc hg z0
  have hr := isP_range p1
  obtain ⟨r2, a2, h2, b2, c2, e2⟩ := next_ex (ρ := ρ) (cc := c) (n := 8) (h := h1) hc hg c1 (by omega)
  have en : IntKind.i64.wrap (1 + (r2 : Int)) = ((r2 + 1 : Nat) : Int) := by rw [wrap64_id (by omega) (by omega)]; omega
  obtain ⟨v, a3, h3, v3, c3, e3⟩ := vec_ex (ρ := ρ) (n := ((r2 + 1 : Nat) : Int)) (cc := c) (h := h2) hc hg c2 p1
  have hv : ∀ i, i < 8 → ∃ x : Nat, v i = (x : Int) ∧ x < 100 := fun i _ => ⟨(v i).toNat, by have := v3 i; omega, by have := v3 i; omega⟩
  have sz : (txt (fun i => itoaS (v i)) (r2 + 1)).size ≤ 3 * (r2 + 1) := txt_size fun j hj => by
    obtain ⟨x, e, hx⟩ := hv j (by omega)
    show (itoaS (v j)).size ≤ 2
    rw [e]; exact itoa_size hx
  obtain ⟨p', n', t', q1, q2⟩ := drawP_loop (ρ := ρ) (p := p) (q := (r2 : Int)) hc hg 6 0 3000000 (txt (fun i => itoaS (v i)) (r2 + 1)) a3 h3 rfl (by omega) c3 (by omega)
  refine ⟨p', n', t', q1, fun K => ?_⟩
  rw [spec_DrawParseVector_su.opq]
  simp only [spec_DrawParseVector_su.bdy, spec_DrawParseVector_su.s, Nat.zero_add, Nat.mul_one, from_eq _ hc, e1, e2, en, e3, spec_text _ (show r2 + 1 ≤ 8 by omega) hv]
  exact q2 K
end
end Go.Proofs.YtoeailachidcdaaGreatDoor.H
namespace Go.Proofs.YtoeailachidcdaaGreatDoor.H
open Go Go.RowKit Go.Proofs.YtoeailachidcdaaGreatDoor.Hg
set_option linter.unusedVariables false
set_option linter.unusedSimpArgs false
set_option maxRecDepth 100000
section
variable {ρ : Type}
theorem strEq_self (s : ByteArray) : strEq s s = true := by unfold strEq; simp
theorem both_text (p n : Int) {v : Nat → Int} (hg : ∀ z, 0 ≤ v z ∧ v z ≤ 255) : ∃ (t : ByteArray) (code : Int), (∀ X : ByteArray → Int → Option ρ, spec_VectorText 3000000 X p n v = X t code) ∧ ∀ X : ByteArray → Int → Option ρ, impl_VectorText 3000000 X p n v = X t code := by
  by_cases hv : (sizB p n && vecB p n v) = true
  · have hv0 := hv
    simp only [Bool.and_eq_true] at hv
    obtain ⟨hs, hv⟩ := hv
    obtain ⟨p2, p31, m, rfl, n1, n8⟩ : 2 ≤ p ∧ p ≤ 31 ∧ ∃ m : Nat, n = (m : Int) ∧ 1 ≤ m ∧ m ≤ 8 := by
      have hs := hs
      unfold sizB at hs
      simp only [Bool.and_eq_true, decide_eq_true_eq] at hs
      have := isP_range hs.1
      exact ⟨this.1, this.2, n.toNat, by omega, by omega, by omega⟩
    have hw : ∀ i, i < 8 → ∃ x : Nat, v i = (x : Int) ∧ x < 100 := fun i hi => by
      have hv := hv
      unfold vecB at hv
      have q := allN_true.1 hv i (by omega) (by omega)
      simp only [Bool.and_eq_true, Bool.not_eq_true', decide_eq_false_iff_not] at q
      have q1 := q.1
      have := hg i
      rw [wrap64_id (by omega) (by omega)] at q1
      exact ⟨(v i).toNat, by omega, by omega⟩
    refine ⟨txt (fun i => itoaS (v i)) m, 0, fun X => ?_, fun X => ?_⟩
    · rw [spec_VectorText.opq]
      unfold spec_VectorText.bdy
      rw [spec_isVector]
      simp only [hv0, Bool.not_true, Bool.false_eq_true, if_false]
      rw [spec_text _ n8 hw]
    · rw [impl_VectorText.opq]
      unfold impl_VectorText.bdy
      rw [impl_isVector]
      simp only [hv0, Bool.not_true, Bool.false_eq_true, if_false]
      rw [impl_text _ n1 n8 hw]
  · have hv' : (sizB p n && vecB p n v) = false := by simpa using hv
    refine ⟨ByteArray.empty, 1, fun X => ?_, fun X => ?_⟩
    · rw [spec_VectorText.opq]
      unfold spec_VectorText.bdy
      rw [spec_isVector]
      simp only [hv', Bool.not_false, if_true]
    · rw [impl_VectorText.opq]
      unfold impl_VectorText.bdy
      rw [impl_isVector]
      simp only [hv', Bool.not_false, if_true]
theorem both_parse (p n : Int) {t : ByteArray} (ht : t.size ≤ 1000000) : ∃ (v : Nat → Int) (code : Int), (∀ X : (Nat → Int) → Int → Option ρ, spec_ParseVector 3000000 X p n t = X v code) ∧ ∀ X : (Nat → Int) → Int → Option ρ, impl_ParseVector 3000000 X p n t = X v code := by
  by_cases hs : sizB p n = true
  · obtain ⟨p2, p31, m, rfl, n1, n8⟩ : 2 ≤ p ∧ p ≤ 31 ∧ ∃ m : Nat, n = (m : Int) ∧ 1 ≤ m ∧ m ≤ 8 := by
      have hs := hs
      unfold sizB at hs
      simp only [Bool.and_eq_true, decide_eq_true_eq] at hs
      have := isP_range hs.1
      exact ⟨this.1, this.2, n.toNat, by omega, by omega, by omega⟩
    by_cases hg : ∃ x, tells t m p x
    · obtain ⟨x, hx⟩ := hg
      refine ⟨vx m x, 0, fun X => ?_, fun X => (impl_pv X p2 p31 n1 n8 hs t ht).1 x hx⟩
      rw [spec_ParseVector.opq]
      unfold spec_ParseVector.bdy
      rw [spec_sizes]
      simp only [hs, Bool.not_true, Bool.false_eq_true, if_false]
      rw [(spec_read _ p2 p31 n1 n8 t ht).1 x hx]
      simp only [Bool.not_true, Bool.false_eq_true, if_false]
    · refine ⟨fun _ => 0, 6, fun X => ?_, fun X => (impl_pv X p2 p31 n1 n8 hs t ht).2 hg⟩
      rw [spec_ParseVector.opq]
      unfold spec_ParseVector.bdy
      rw [spec_sizes]
      simp only [hs, Bool.not_true, Bool.false_eq_true, if_false]
      rw [(spec_read _ p2 p31 n1 n8 t ht).2 hg]
      simp only [Bool.not_false, if_true]
  · have hs' : sizB p n = false := by simpa using hs
    refine ⟨fun _ => 0, 1, fun X => ?_, fun X => ?_⟩
    · rw [spec_ParseVector.opq]
      unfold spec_ParseVector.bdy
      rw [spec_sizes]
      simp only [hs', Bool.not_false, if_true]
    · rw [impl_ParseVector.opq]
      unfold impl_ParseVector.bdy impl_ParseVector.s
      simp only [impl_isVector, hs', Bool.false_and, Bool.not_false, if_true]
theorem texts_law (K : Bool → Option ρ) {c : Nat} {G : Nat → Int} (hc : c ≤ 4096) (hG : ∀ z, 0 ≤ G z ∧ G z ≤ 255) (w : Nat) :
    spec_DrawVectorText_su 3000000 (fun rv23 rv24 rv25 => (spec_VectorText 3000000 (fun rv26 rv27 => (impl_VectorText 3000000 (fun rv28 rv29 => (spec_DrawParseVector_su 3000000 (fun rv30 rv31 rv32 => (spec_ParseVector 3000000 (fun rv33 rv34 => (impl_ParseVector 3000000 (fun rv35 rv36 => (if (rv29 == rv27) = true then (if (strEq rv28 rv26) = true then (if (rv36 == rv34) = true then (if (eqN 8 rv35 rv33) = true then (impl_IsVector 3000000 (fun rv37 => (spec_IsVector 3000000 (fun rv38 => (K ((rv37 == rv38)))) rv23 rv24 rv25)) rv23 rv24 rv25) else (K false)) else (K false)) else (K false)) else (K false))) rv30 rv31 rv32)) rv30 rv31 rv32)) c w G)) rv23 rv24 rv25)) rv23 rv24 rv25)) c w G = K true := by
  obtain ⟨p, n, v, hv, e1⟩ := drawV_ex (ρ := ρ) (w := w) hc hG
  obtain ⟨t, code, s1, s2⟩ := both_text (ρ := ρ) p n hv
  obtain ⟨p', n', t', ht, e2⟩ := drawP_ex (ρ := ρ) (w := w) hc hG
  obtain ⟨v', code', u1, u2⟩ := both_parse (ρ := ρ) p' n' (show t'.size ≤ 1000000 by omega)
  have q : eqN 8 v' v' = true := by unfold eqN; exact decide_eq_true fun _ _ => rfl
  simp only [e1, s1, s2, e2, u1, u2, BEq.rfl, strEq_self, q, if_true, impl_isVector, spec_isVector]
theorem fnSpaces_law (K : Bool → Option ρ) (c w : Nat) (g : Nat → Int) (hcm : c ≤ maxLen) (hg : ∀ z, IntKind.u8.has (g z)) : laws_FnSpaces_su 3000000 K c w g = K true := by
  unfold laws_FnSpaces_su
  rw [laws_big_su.opq]
  unfold laws_big_su.bdy
  dsimp only
  by_cases hbig : (c : Int) > 4096
  · rw [if_pos (decide_eq_true hbig)]
  · rw [if_neg (fun e => hbig (of_decide_eq_true e))]
    have hc : c ≤ 4096 := by omega
    have hb : ∀ z, 0 ≤ g z ∧ g z ≤ 255 := fun z => by
      have := hg z
      simp only [IntKind.has, IntKind.min, IntKind.max] at this
      first | exact this | (simp at this; omega)
    have hG : ∀ z, 0 ≤ (fun z => g (0 + z)) z ∧ (fun z => g (0 + z)) z ≤ 255 := fun z => hb _
    have T := texts_law K hc hG (c * 1)
    obtain ⟨p, n, m, L, hm, hL, e1⟩ := drawR_ex (ρ := ρ) (w := c * 1) hc hG
    refine Eq.trans (e1 _) ?_
    try dsimp only
    obtain ⟨rn, rc, rg, h8, hgood, hs, hi⟩ := both_su (ρ := ρ) (p := p) (n := n) (m := m) (g := L) (by omega) (fun z _ => hL z)
    obtain ⟨gs, s1, s2⟩ := hs (m * 8) (fun z => L (0 + z)) (fun z _ => by rw [Nat.zero_add])
    refine Eq.trans (s2 _) ?_
    try dsimp only
    obtain ⟨gi, i1, i2⟩ := hi (m * 8) (fun z => L (0 + z)) (fun z _ => by rw [Nat.zero_add])
    refine Eq.trans (i2 _) ?_
    try dsimp only
    rw [if_neg (show ¬ (rc != rc) = true by simp)]
    refine Eq.trans (vec5_same _ (by omega) (fun z hz => by rw [Nat.zero_add]; rw [i1 z hz, s1 z hz])) ?_
    rw [if_neg (show ¬ (!true) = true by simp)]
    rcases hgood with ⟨rfl, good1⟩ | ⟨rfl, _⟩
    · rw [if_pos (show ((0 : Int) == 0) = true from rfl)]
      have gp := good1.1
      have gsz := good1.2.1
      have gm := good1.2.2.1
      have fit := rows_fit good1 fun z _ => hL z
      have rb := good_bytes good1
      have hin : ∀ z, z < rn * 8 → (fun z => gi (0 + z)) z = rg z := fun z hz => by
        show gi (0 + z) = rg z
        rw [Nat.zero_add, i1 z hz]
      obtain ⟨rn2, rc2, rg2, k8, good2, _, hi2⟩ := both_su (ρ := ρ) (p := p) (n := n) (m := rn) (g := rg) (by omega) rb
      obtain ⟨g2, j1, j2⟩ := hi2 (rn * 8) (fun z => gi (0 + z)) hin
      refine Eq.trans (v2_same _) ?_
      refine Eq.trans (j2 _) ?_
      try dsimp only
      obtain ⟨rfl, gd2⟩ : rc2 = 0 ∧ good p n rn rg rn2 rg2 := by
        rcases good2 with h | ⟨_, h⟩
        · exact h
        · exact absurd ⟨gsz, fit⟩ h
      obtain ⟨l1, r1, r2, r3⟩ := good1.2.2.2
      obtain ⟨en, eg⟩ := good_same gd2 good1 r2 r3
      subst en
      rw [if_pos (show (0 + rn2) * 8 ≤ 140737488355328 by omega), if_pos (show ((0 + rn2) + m) * 8 ≤ 140737488355328 by omega)]
      have hcat : ∀ z, z < (0 + rn2 + m) * 8 → (fun z => joinN ((0 + rn2) * 8) (joinN 0 (fun _ => 0) gi) L (0 + z)) z = joinN (rn2 * 8) rg L z := fun z hz => by
        show joinN ((0 + rn2) * 8) (joinN 0 (fun _ => 0) gi) L (0 + z) = joinN (rn2 * 8) rg L z
        rw [Nat.zero_add, Nat.zero_add]
        unfold joinN
        by_cases q : z < rn2 * 8
        · rw [if_pos q, if_pos q, if_neg (by omega), Nat.sub_zero, i1 z q]
        · rw [if_neg q, if_neg q]
      have mb : ∀ z, z < (0 + rn2 + m) * 8 → 0 ≤ joinN (rn2 * 8) rg L z ∧ joinN (rn2 * 8) rg L z ≤ 255 := fun z hz => by
        unfold joinN
        by_cases q : z < rn2 * 8
        · rw [if_pos q]; exact rb z q
        · rw [if_neg q]; exact hL _
      have row1 : ∀ k, k < rn2 → ∀ z, z < 8 → rw8 (joinN (rn2 * 8) rg L) k z = rw8 rg k z := fun k hk z hz => by
        unfold rw8 joinN
        rw [if_pos (by omega)]
      have row2 : ∀ k, k < m → ∀ z, z < 8 → rw8 (joinN (rn2 * 8) rg L) (rn2 + k) z = rw8 L k z := fun k hk z hz => by
        unfold rw8 joinN
        rw [if_neg (by omega)]
        congr 1; omega
      have mfit : allV p n (0 + rn2 + m) (joinN (rn2 * 8) rg L) = true := by
        unfold allV
        refine allN_true.2 fun k _ hk => ?_
        by_cases q : k < rn2
        · rw [vecB_same (row1 k q)]
          unfold allV at fit
          exact allN_true.1 fit k (by omega) (by omega)
        · obtain ⟨k', rfl⟩ : ∃ k', k = rn2 + k' := ⟨k - rn2, by omega⟩
          rw [vecB_same (row2 k' (by omega))]
          unfold allV at gm
          exact allN_true.1 gm k' (by omega) (by omega)
      have sub1 : Sub p 8 (Rw (0 + rn2 + m) (rw8 (joinN (rn2 * 8) rg L))) (Rw m (rw8 L)) := by
        rintro r ⟨k, hk, rfl⟩
        by_cases q : k < rn2
        · exact (r2 _ ⟨k, q, rfl⟩).cg (Cg.of_eq (row1 k q))
        · obtain ⟨k', rfl⟩ : ∃ k', k = rn2 + k' := ⟨k - rn2, by omega⟩
          exact (Sp.of ⟨k', by omega, rfl⟩).cg (Cg.of_eq (row2 k' (by omega)))
      have sub2 : Sub p 8 (Rw m (rw8 L)) (Rw (0 + rn2 + m) (rw8 (joinN (rn2 * 8) rg L))) := by
        rintro r ⟨k, hk, rfl⟩
        exact (Sp.of ⟨rn2 + k, by omega, rfl⟩).cg (Cg.of_eq fun z hz => (row2 k hk z hz).symm)
      obtain ⟨rn3, rc3, rg3, m8, good3, _, hi3⟩ := both_su (ρ := ρ) (p := p) (n := n) (m := 0 + rn2 + m) (g := joinN (rn2 * 8) rg L) (by omega) mb
      obtain ⟨g3, t1, t2⟩ := hi3 ((0 + rn2 + m) * 8) (fun z => joinN ((0 + rn2) * 8) (joinN 0 (fun _ => 0) gi) L (0 + z)) hcat
      refine Eq.trans (t2 _) ?_
      try dsimp only
      obtain ⟨rfl, gd3⟩ : rc3 = 0 ∧ good p n (0 + rn2 + m) (joinN (rn2 * 8) rg L) rn3 rg3 := by
        rcases good3 with h | ⟨_, h⟩
        · exact h
        · exact absurd ⟨gsz, mfit⟩ h
      obtain ⟨en3, eg3⟩ := good_same gd3 good1 sub1 sub2
      subst en3
      rw [if_neg (show ¬ ((0 : Int) != 0) = true by simp), if_neg (show ¬ ((0 : Int) != 0) = true by simp)]
      refine Eq.trans (vec5_same _ (by omega) (fun z hz => by
        show g2 (0 + z) = gi (0 + z)
        rw [Nat.zero_add, j1 z hz, eg z hz, i1 z hz])) ?_
      rw [if_neg (show ¬ (!true) = true by simp)]
      refine Eq.trans (vec5_same _ (by omega) (fun z hz => by
        show g3 (0 + z) = gi (0 + z)
        rw [Nat.zero_add, t1 z hz, eg3 z hz, i1 z hz])) ?_
      rw [if_neg (show ¬ (!true) = true by simp)]
      exact T
    · rw [if_neg (show ¬ ((1 : Int) == 0) = true by simp)]
      exact T
end
end Go.Proofs.YtoeailachidcdaaGreatDoor.H
