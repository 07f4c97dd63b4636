import Derived.Test.YtfdkkcaolajhoaaDoorHP0
import Derived.Test.YtfdkkcaolajhoaaDoorHgMath
import Derived.KernelRfl
import Derived.Test.YtfdkkcaolajhoaaDoorHgCon
import Derived.Test.YtfdkkcaolajhoaaDoorHCon
namespace Go.Proofs.YtfdkkcaolajhoaaDoor.H
set_option linter.unusedVariables false
set_option linter.unusedSimpArgs false
set_option linter.unusedSectionVars false
open Go Go.RowKit Go.Proofs.YtfdkkcaolajhoaaDoor.Hg
set_option maxRecDepth 100000
variable {ρ : Type}
def isP (p : Int) : Bool := decide (p ∈ [2, 3, 5, 7, 11, 13, 17, 19, 23, 29, 31])
theorem thirty {p : Int} (h : 2 ≤ p) (h' : p ≤ 31) : p = 2 ∨ p = 3 ∨ p = 4 ∨ p = 5 ∨ p = 6 ∨ p = 7 ∨ p = 8 ∨ p = 9 ∨ p = 10 ∨ p = 11 ∨ p = 12 ∨ p = 13 ∨ p = 14 ∨ p = 15 ∨ p = 16 ∨ p = 17 ∨ p = 18 ∨ p = 19 ∨ p = 20 ∨ p = 21 ∨ p = 22 ∨ p = 23 ∨ p = 24 ∨ p = 25 ∨ p = 26 ∨ p = 27 ∨ p = 28 ∨ p = 29 ∨ p = 30 ∨ p = 31 := by omega
theorem isP_no {p : Int} (h : p < 2 ∨ 31 < p) : isP p = false := by
  unfold isP
  apply decide_eq_false
  simp only [List.mem_cons, List.not_mem_nil, or_false]
  omega
theorem isP_range {p : Int} (h : isP p = true) : 2 ≤ p ∧ p ≤ 31 := by
  by_cases h1 : p < 2 ∨ 31 < p
  · rw [isP_no h1] at h; cases h
  · omega
theorem spec_prime_high (K : Bool → Option ρ) (p : Int) (h : 31 < p) : ∀ n : Nat, n ≤ 30 → ∀ m, n < m → spec_l01Prime.l0 2000000 K p (spec_l01Prime.a0_0 2000000 K p) m (32 - n) = K false := by
  intro n
  induction n with
  | zero =>
    intro _ m hm
    obtain ⟨m, rfl⟩ : ∃ k, m = k + 1 := ⟨m - 1, by omega⟩
    simp only [spec_l01Prime.l0, spec_l01Prime.b0, spec_l01Prime.a0_0, spec_l01In]
    have h2 : ¬ (p ≤ 31) := by omega
    have h3 : (2 : Int) ≤ p := by omega
    simp [h2, h3]
  | succ n ih =>
    intro hn m hm
    obtain ⟨m, rfl⟩ : ∃ k, m = k + 1 := ⟨m - 1, by omega⟩
    have ih := ih (by omega) m (by omega)
    have e : IntKind.i64.wrap ((32 : Int) - ((n + 1 : Nat) : Int) + 1) = 32 - (n : Int) := by
      rw [wrap64_id (by omega) (by omega)]; omega
    have hd : (32 : Int) - ((n + 1 : Nat) : Int) < p := by omega
    have h31 : (32 : Int) - ((n + 1 : Nat) : Int) ≤ 31 := by omega
    have h0 : ¬ ((32 : Int) - ((n + 1 : Nat) : Int) = 0) := by omega
    simp only [spec_l01Prime.l0, spec_l01Prime.b0, hd, h31, h0, decide_true, if_true, if_false, e, ih]
    split <;> rfl
theorem spec_prime (K : Bool → Option ρ) (p : Int) : spec_l01Prime 2000000 K p = K (isP p) := by
  by_cases h2 : p < 2
  · rw [isP_no (.inl h2)]
    have h3 : ¬ (2 < p) := by omega
    have h4 : ¬ (p ≥ 2) := by omega
    show spec_l01Prime.b0 2000000 K _ _ p 2 = _
    simp [spec_l01Prime.b0, spec_l01Prime.a0_0, spec_l01In, h3, h4]
  · by_cases h31 : 31 < p
    · rw [isP_no (.inr h31)]
      exact spec_prime_high K p h31 30 (by omega) 2000000 (by omega)
    · rcases thirty (Int.not_lt.1 h2) (Int.not_lt.1 h31) with h|h|h|h|h|h|h|h|h|h|h|h|h|h|h|h|h|h|h|h|h|h|h|h|h|h|h|h|h|h <;> subst h <;> kernel_rfl
theorem impl_prime (K : Bool → Option ρ) (p : Int) : impl_IsPrime 2000000 K p = K (isP p) := by
  by_cases h2 : p < 2
  · rw [isP_no (.inl h2)]
    simp [impl_IsPrime, impl_IsPrime.s, h2]
  · by_cases h31 : 31 < p
    · rw [isP_no (.inr h31)]
      have h3 : p > 31 := h31
      simp [impl_IsPrime, impl_IsPrime.s, h2, h3]
    · rcases thirty (Int.not_lt.1 h2) (Int.not_lt.1 h31) with h|h|h|h|h|h|h|h|h|h|h|h|h|h|h|h|h|h|h|h|h|h|h|h|h|h|h|h|h|h <;> subst h <;> kernel_rfl
def sizB (p n : Int) : Bool := isP p && (decide (1 ≤ n) && decide (n ≤ 8))
def vecB (p n : Int) (v : Nat → Int) : Bool := allN (fun i => !decide (IntKind.i64.wrap (v i) ≥ p) && (!decide ((i : Int) ≥ n) || !(v i != 0))) 0 8
theorem nx {i : Nat} (h : i < 100000) : IntKind.i64.wrap ((i : Int) + 1) = ((i + 1 : Nat) : Int) := by
  rw [wrap64_id (by omega) (by omega)]; omega
theorem K_if (K : Bool → Option ρ) (b : Bool) : (if b = true then K true else K false) = K b := by cases b <;> rfl
theorem spec_in (K : Bool → Option ρ) (n lo hi : Int) : spec_l01In 2000000 K n lo hi = K (decide (lo ≤ n) && decide (n ≤ hi)) := by
  unfold spec_l01In
  by_cases h : n ≥ lo
  · have h' : lo ≤ n := h
    simp [h, h']
  · have h' : ¬ lo ≤ n := h
    simp [h, h']
theorem impl_in_eq (K : Bool → Option ρ) (n lo hi : Int) : impl_in 2000000 K n lo hi = K (decide (lo ≤ n) && decide (n ≤ hi)) := by
  unfold impl_in
  by_cases h : lo ≤ n <;> simp [h]
theorem spec_sizes (K : Bool → Option ρ) (p n : Int) : spec_l01Sizes 2000000 K p n = K (sizB p n) := by
  unfold spec_l01Sizes sizB
  rw [spec_prime]
  cases isP p
  · simp
  · simp [spec_in]
theorem impl_vectorLoop (K : Bool → Option ρ) (p n : Int) (v : Nat → Int) : impl_IsVector.l0 2000000 K p n v (impl_IsVector.a0_0 2000000 K) 2000000 0 = K (vecB p n v) := by
  refine Eq.trans ?_ (K_if K _)
  refine loop_all (l := fun m i => impl_IsVector.l0 2000000 K p n v (impl_IsVector.a0_0 2000000 K) m (i : Int)) (n := 8) _ (fun m i hi => ?_) (fun m => ?_) 8 0 2000000 (by omega) (by omega)
  · simp only [impl_IsVector.l0, impl_IsVector.b0]
    have h1 : (i : Int) < 8 := by omega
    have h2 : (0 : Int) ≤ i ∧ (i : Int) < 8 := by omega
    simp only [h1, h2, decide_true, if_true, and_self, Int.toNat_natCast, Nat.mul_one, nx (show i < 100000 by omega)]
    by_cases ha : IntKind.i64.wrap (v i) ≥ p
    · simp [ha]
    · by_cases hb : (i : Int) ≥ n
      · by_cases hc : (v i != 0) = true <;> simp [ha, hb, hc]
      · simp [ha, hb]
  · rfl
theorem impl_isVector (K : Bool → Option ρ) (p n : Int) (v : Nat → Int) : impl_IsVector 2000000 K p n v = K (sizB p n && vecB p n v) := by
  simp only [impl_IsVector, impl_IsVector.s, impl_prime, impl_in_eq, impl_vectorLoop, sizB]
  cases isP p
  · simp
  · by_cases h1 : 1 ≤ n <;> by_cases h8 : n ≤ 8 <;> simp [h1, h8]
end Go.Proofs.YtfdkkcaolajhoaaDoor.H
namespace Go.Proofs.YtfdkkcaolajhoaaDoor.H
open Go Go.RowKit Go.Proofs.YtfdkkcaolajhoaaDoor.Hg
set_option linter.unusedVariables false
set_option linter.unusedSimpArgs false
set_option maxRecDepth 100000
variable {ρ : Type}
end Go.Proofs.YtfdkkcaolajhoaaDoor.H
namespace Go.Proofs.YtfdkkcaolajhoaaDoor.H
open Go Go.RowKit Go.Proofs.YtfdkkcaolajhoaaDoor.Hg
set_option linter.unusedVariables false
set_option linter.unusedSimpArgs false
set_option maxRecDepth 100000
variable {ρ : Type}
end Go.Proofs.YtfdkkcaolajhoaaDoor.H
namespace Go.Proofs.YtfdkkcaolajhoaaDoor.H
open Go Go.RowKit Go.Proofs.YtfdkkcaolajhoaaDoor.Hg
set_option linter.unusedVariables false
set_option linter.unusedSimpArgs false
set_option maxRecDepth 100000
variable {ρ : Type}
section
variable {a0 a1 : Nat → Int} {n : Nat}
end
end Go.Proofs.YtfdkkcaolajhoaaDoor.H
namespace Go.Proofs.YtfdkkcaolajhoaaDoor.H
open Go Go.RowKit Go.Proofs.YtfdkkcaolajhoaaDoor.Hg
set_option linter.unusedVariables false
set_option linter.unusedSimpArgs false
set_option maxRecDepth 100000
section
variable {ρ : Type}
theorem ba_ext {a b : ByteArray} (h : a.data.toList = b.data.toList) : a = b := by
  cases a; cases b
  simp only at h
  rw [Array.toList_inj] at h
  rw [h]
theorem ba_app (a b : ByteArray) : (a ++ b).data.toList = a.data.toList ++ b.data.toList := by
  rw [ByteArray.data_append]
  simp
theorem ba_size (a : ByteArray) : a.size = a.data.toList.length := by
  rw [Array.length_toList]; rfl
theorem ba_nil (a : ByteArray) : ByteArray.empty ++ a = a := ba_ext (by rw [ba_app]; simp)
theorem itoa_lo {x : Nat} (h : x < 10) : itoaS (x : Int) = ⟨#[UInt8.ofNat (48 + x)]⟩ := by
  unfold itoaS
  rw [Int.toNat_natCast, Lib.decDigits, dif_pos h]
theorem itoa_hi {x : Nat} (h : 10 ≤ x) (h' : x < 100) : itoaS (x : Int) = ⟨#[UInt8.ofNat (48 + x / 10)]⟩ ++ ⟨#[UInt8.ofNat (48 + x % 10)]⟩ := by
  refine ba_ext ?_
  rw [ba_app]
  unfold itoaS
  rw [Int.toNat_natCast, Lib.decDigits, dif_neg (by omega), Lib.decDigits, dif_pos (by omega)]
theorem itoa_size {x : Nat} (h : x < 100) : (itoaS (x : Int)).size ≤ 2 := by
  by_cases h1 : x < 10
  · rw [itoa_lo h1]; exact (show 1 ≤ 2 by omega)
  · rw [itoa_hi (by omega) h, ba_size, ba_app]; exact Nat.le_refl 2
def txt (S : Nat → ByteArray) : Nat → ByteArray
  | 0 => ByteArray.empty
  | i + 1 => if 0 < i then (txt S i ++ (ByteArray.mk #[44])) ++ S i else txt S i ++ S i
theorem txt_congr {S S' : Nat → ByteArray} : ∀ {n : Nat}, (∀ j, j < n → S j = S' j) → txt S n = txt S' n
  | 0, _ => rfl
  | n + 1, h => by simp only [txt]; rw [txt_congr fun j hj => h j (by omega), h n (by omega)]
theorem txt_size {S : Nat → ByteArray} : ∀ {n : Nat}, (∀ j, j < n → (S j).size ≤ 2) → (txt S n).size ≤ 3 * n
  | 0, _ => Nat.le_refl 0
  | n + 1, h => by
    have h1 := txt_size (n := n) fun j hj => h j (by omega)
    have h2 := h n (by omega)
    have e : (ByteArray.mk #[44]).data.toList.length = 1 := rfl
    rw [ba_size] at h1 h2 ⊢
    simp only [txt]
    split
    · rw [ba_app, ba_app, List.length_append, List.length_append, e]; omega
    · rw [ba_app, List.length_append]; omega
theorem join_snoc {xs : List (List UInt8)} {y sep : List UInt8} (h : xs ≠ []) : Lib.join (xs ++ [y]) sep = (Lib.join xs sep ++ sep) ++ y := by
  cases xs with
  | nil => exact absurd rfl h
  | cons x r =>
    rw [List.cons_append, Lib.join_cons, Lib.join_cons]
    simp [Lib.joinTail, List.append_assoc]
theorem join_txt {g : Nat → ByteArray} : ∀ n : Nat, joinS (n + 1) g (ByteArray.mk #[44]) = txt g (n + 1)
  | 0 => by
    refine ba_ext ?_
    show Lib.join [(g 0).data.toList] (ByteArray.mk #[44]).data.toList = (ByteArray.empty ++ g 0).data.toList
    rw [Lib.join_one, ba_nil]
  | n + 1 => by
    refine ba_ext ?_
    have ih := congrArg (fun a => a.data.toList) (join_txt (g := g) n)
    simp only [joinS] at ih ⊢
    rw [List.range_succ, List.map_append, List.map_append]
    simp only [List.map_cons, List.map_nil]
    rw [join_snoc (by simp), ih]
    show _ = (if 0 < n + 1 then (txt g (n + 1) ++ (ByteArray.mk #[44])) ++ g (n + 1) else txt g (n + 1) ++ g (n + 1)).data.toList
    rw [if_pos (by omega), ba_app, ba_app]
def gS (v : Nat → Int) : Nat → Nat → ByteArray
  | 0 => fun _ => ByteArray.empty
  | i + 1 => joinN (i * 1) (gS v i) (fun z => [itoaS (v i)].getD z ByteArray.empty)
theorem gS_at {v : Nat → Int} : ∀ {n j : Nat}, j < n → gS v n j = itoaS (v j)
  | 0, j, h => by omega
  | n + 1, j, h => by
    simp only [gS, joinN, Nat.mul_one]
    by_cases e : j < n
    · rw [if_pos e]; exact gS_at e
    · have : j = n := by omega
      subst this
      rw [if_neg e, Nat.sub_self]; rfl
theorem impl_text (K : ByteArray → Option ρ) {n : Nat} {v : Nat → Int} (h1n : 1 ≤ n) (hn : n ≤ 8) (hv : ∀ i, i < 8 → ∃ x : Nat, v i = (x : Int) ∧ x < 100) : impl_vectorText 2000000 K (n : Int) v = K (txt (fun i => itoaS (v i)) n) := by
  have S2 : ∀ i, i < 8 → (itoaS (v i)).size ≤ 2 := fun i hi => by obtain ⟨x, e, h⟩ := hv i hi; rw [e]; exact itoa_size h
  unfold impl_vectorText impl_vectorText.s
  rw [if_pos (show (0 : Int) ≤ (0 : Int) ∧ (0 : Int) ≤ (n : Int) ∧ (n : Int) ≤ 8 by omega)]
  refine loop_tat (n := n) (fun i => i) (gS v) rfl rfl (fun q i hi => ?_) (fun q => ?_) (by omega)
  · obtain ⟨x, e, hx⟩ := hv i (by omega)
    simp only [impl_vectorText.l0, impl_vectorText.b0]
    have h1 : (i : Int) < (n : Int) := by omega
    have h2 : (0 : Int) ≤ i ∧ (i : Int) < (n : Int) := by omega
    have ew : IntKind.i64.wrap (v i) = (x : Int) := by rw [e, wrap64_id (by omega) (by omega)]
    have h3 : (0 : Int) ≤ (x : Int) ∧ (x : Int) < 100 := by omega
    have ew' : IntKind.i64.wrap (x : Int) = (x : Int) := wrap64_id (by omega) (by omega)
    have h4 : (i + 1) * 16 ≤ 140737488355328 := by omega
    simp only [Int.toNat_natCast, h1, h2, decide_true, if_true, and_self, Nat.mul_one, Nat.zero_add, ew, ew', strconv_Itoa, h3, h4, nx (show i < 100000 by omega), gS, e]
  · simp only [impl_vectorText.l0, impl_vectorText.b0, Int.toNat_natCast, Int.lt_irrefl, decide_false, Bool.false_eq_true, if_false, impl_vectorText.a0_0, Nat.zero_add, strings_Join_su]
    obtain ⟨k, rfl⟩ : ∃ k, n = k + 1 := ⟨n - 1, by omega⟩
    have e : joinS (k + 1) (fun z => gS v (k + 1) z) (ByteArray.mk #[44]) = txt (fun i => itoaS (v i)) (k + 1) := by
      rw [join_txt]
      exact txt_congr fun j hj => gS_at hj
    have z := txt_size (S := fun i => itoaS (v i)) (n := k + 1) fun j hj => S2 j (by omega)
    rw [e, if_pos ⟨by omega, by omega⟩]
end
end Go.Proofs.YtfdkkcaolajhoaaDoor.H
namespace Go.Proofs.YtfdkkcaolajhoaaDoor.H
open Go Go.RowKit Go.Proofs.YtfdkkcaolajhoaaDoor.Hg
set_option linter.unusedVariables false
set_option linter.unusedSimpArgs false
set_option maxRecDepth 100000
section
variable {ρ : Type}
def sp : List UInt8 → List (List UInt8)
  | [] => [[]]
  | c :: r => if c = 44 then [] :: sp r else (match sp r with | [] => [[c]] | h :: t => (c :: h) :: t)
theorem sp_ne : ∀ l, sp l ≠ []
  | [] => by simp [sp]
  | c :: r => by
    simp only [sp]
    split
    · simp
    · split <;> simp
theorem sp_one : ∀ {u : List UInt8}, (44 : UInt8) ∉ u → sp u = [u]
  | [], _ => rfl
  | c :: r, h => by
    have h1 : c ≠ 44 := fun e => h (by simp [e])
    have h2 := sp_one (u := r) fun e => h (List.mem_cons_of_mem _ e)
    simp only [sp, if_neg h1, h2]
theorem sp_app : ∀ {a b : List UInt8}, sp (a ++ 44 :: b) = sp a ++ sp b
  | [], b => by simp [sp]
  | c :: r, b => by
    have ih := sp_app (a := r) (b := b)
    simp only [List.cons_append, sp, ih]
    split
    · rfl
    · cases hs : sp r with
      | nil => exact absurd hs (sp_ne r)
      | cons h t => rfl
def glue : List (List UInt8) → List UInt8
  | [] => []
  | [u] => u
  | u :: v :: r => u ++ 44 :: glue (v :: r)
theorem glue_sp : ∀ l, glue (sp l) = l
  | [] => rfl
  | c :: r => by
    have ih := glue_sp r
    simp only [sp]
    cases hs : sp r with
    | nil => exact absurd hs (sp_ne r)
    | cons h t =>
      rw [hs] at ih
      split
      · rename_i e
        subst e
        show [] ++ 44 :: glue (h :: t) = _
        rw [ih]; rfl
      · cases t with
        | nil => show c :: h = c :: r; rw [← ih]; rfl
        | cons v q => show (c :: h) ++ 44 :: glue (v :: q) = _; rw [← ih]; rfl
theorem sp_inj {l l' : List UInt8} (h : sp l = sp l') : l = l' := by rw [← glue_sp l, h, glue_sp]
theorem idx : ∀ l : List UInt8, ((44 : UInt8) ∉ l ∧ Lib.index l [44] = -1) ∨ ∃ u r, l = u ++ 44 :: r ∧ (44 : UInt8) ∉ u ∧ Lib.index l [44] = (u.length : Int)
  | [] => .inl ⟨by simp, rfl⟩
  | c :: l => by
    by_cases h : c = 44
    · subst h; exact .inr ⟨[], l, rfl, by simp, by simp [Lib.index, List.isPrefixOf]⟩
    · have hp : ([44] : List UInt8).isPrefixOf (c :: l) = false := by simp [List.isPrefixOf, Ne.symm h]
      rcases idx l with ⟨h1, h2⟩ | ⟨u, r, h1, h2, h3⟩
      · exact .inl ⟨by simp [Ne.symm h, h1], by simp [Lib.index, hp, h2]⟩
      · refine .inr ⟨c :: u, r, by simp [h1], by simp [Ne.symm h, h2], ?_⟩
        have : ¬ ((u.length : Int) == -1) = true := fun e => by have := beq_iff_eq.1 e; omega
        rw [Lib.index, hp, h3, if_neg (by simp), if_neg this]
        simp
theorem ext_list (s : ByteArray) (a b : Nat) : (s.extract a b).data.toList = (s.data.toList.drop a).take (b - a) := by
  rw [ByteArray.data_extract, Array.toList_extract]
theorem splitB_sp : ∀ (k : Nat) (s : ByteArray), Lib.countB s (ByteArray.mk #[44]) = k → (Lib.splitB (ByteArray.mk #[44]) 0 k s).map (·.data.toList) = sp s.data.toList
  | 0, s, hk => by
    rcases idx s.data.toList with ⟨h1, h2⟩ | ⟨u, r, h1, h2, h3⟩
    · simp [Lib.splitB, sp_one h1]
    · have := Lib.countB_hit s (ByteArray.mk #[44]) u.length (Nat.le_refl 1) h3; omega
  | k + 1, s, hk => by
    rcases idx s.data.toList with ⟨h1, h2⟩ | ⟨u, r, h1, h2, h3⟩
    · have := Lib.countB_miss s (ByteArray.mk #[44]) h2; omega
    · have hc := Lib.countB_hit s (ByteArray.mk #[44]) u.length (Nat.le_refl 1) h3
      have hz : s.size = u.length + (r.length + 1) := by rw [ba_size, h1]; simp
      rw [Lib.splitB_hit _ 0 k s u.length h3, List.map_cons, splitB_sp k _ (by omega), ext_list, ext_list, h1, sp_app, sp_one h2]
      have e1 : (List.drop 0 (u ++ 44 :: r)).take (u.length + 0 - 0) = u := by simp
      have e2 : (List.drop (u.length + (ByteArray.mk #[44]).size) (u ++ 44 :: r)).take (s.size - (u.length + (ByteArray.mk #[44]).size)) = r := by
        have es : (ByteArray.mk #[44]).size = 1 := rfl
        rw [es, hz, ← List.drop_drop, List.drop_left]
        show r.take (u.length + (r.length + 1) - (u.length + 1)) = r
        exact List.take_of_length_le (by omega)
      rw [e1, e2]; rfl
def rep (g : Nat → ByteArray) (D : List (List UInt8)) : Prop := ∀ j x, D[j]? = some x → (g j).data.toList = x
theorem rep_split (s : ByteArray) : rep (splitW s (ByteArray.mk #[44])) (sp s.data.toList) := by
  intro j x h
  rw [← splitB_sp _ s rfl, List.getElem?_map] at h
  unfold splitW
  rw [List.getD_eq_getElem?_getD]
  cases hh : (Lib.splitB (ByteArray.mk #[44]) 0 (Lib.countB s (ByteArray.mk #[44])) s)[j]? with
  | none => rw [hh] at h; cases h
  | some y => rw [hh] at h; cases h; rfl
theorem splitN_len (s : ByteArray) : splitN s (ByteArray.mk #[44]) = (sp s.data.toList).length := by
  rw [← splitB_sp _ s rfl, List.length_map, Lib.splitB_all (ByteArray.mk #[44]) (Nat.le_refl 1) 0 _ s rfl]; rfl
theorem rep_snoc {g : Nat → ByteArray} {D : List (List UInt8)} {n : Nat} (hn : D.length = n) (e : ByteArray) (h : rep g D) : rep (joinN (n * 1) g (fun z => [e].getD z ByteArray.empty)) (D ++ [e.data.toList]) := by
  intro j x hx
  subst hn
  unfold joinN
  rw [Nat.mul_one]
  rw [List.getElem?_append] at hx
  split at hx
  · rename_i h1
    rw [if_pos h1]
    exact h j x hx
  · rename_i h1
    rw [if_neg h1]
    cases hk : j - D.length with
    | zero => rw [hk] at hx; cases hx; rfl
    | succ q => rw [hk] at hx; simp at hx
theorem drop_at {l : List UInt8} {i : Nat} (h : i < l.length) : l.drop i = l[i] :: l.drop (i + 1) := List.drop_eq_getElem_cons h
theorem bt_at {t : ByteArray} {i : Nat} (h : i < t.data.toList.length) : bt t i = ((t.data.toList[i]).toNat : Int) := by
  unfold bt
  have h' : i < t.data.size := by rwa [Array.length_toList] at h
  have e : t.data.getD i 0 = t.data[i] := dif_pos h'
  rw [e, Array.getElem_toList]
theorem take_next {l : List UInt8} {a i : Nat} (h : a ≤ i) (hi : i < l.length) : (l.drop a).take (i + 1 - a) = (l.drop a).take (i - a) ++ [l[i]] := by
  rw [show i + 1 - a = (i - a) + 1 by omega, List.take_add_one, List.getElem?_drop, show a + (i - a) = i by omega, List.getElem?_eq_getElem hi]
  rfl
theorem cut_at {l : List UInt8} {a i : Nat} (h : a ≤ i) (hi : i < l.length) : l.drop a = (l.drop a).take (i - a) ++ l[i] :: l.drop (i + 1) := by
  rw [← drop_at hi]
  have := List.take_append_drop (i - a) (l.drop a)
  rw [List.drop_drop, show a + (i - a) = i by omega] at this
  exact this.symm
theorem split_loop (K : Nat → (Nat → ByteArray) → Option ρ) (t : ByteArray) (ht : t.size ≤ 1000000) : ∀ (k i outv a : Nat) (g : Nat → ByteArray) (m : Nat) (D : List (List UInt8)), i + k = t.data.toList.length → k < m → a ≤ i → outv ≤ i → D.length = outv →
    (44 : UInt8) ∉ (t.data.toList.drop a).take (i - a) → rep g D → sp t.data.toList = D ++ sp (t.data.toList.drop a) →
    ∃ G, rep G (sp t.data.toList) ∧ spec_l01Split.l0 2000000 K t 44 (fun ov6 ov7 ov8 => spec_l01Split.a0_0 2000000 K t ov6 ov7 ov8) m outv (a : Int) (i : Int) g = K (sp t.data.toList).length G
  | 0, i, outv, a, g, m, D, hi, hm, ha, ho, hD, hc, hr, hs => by
    obtain ⟨m, rfl⟩ : ∃ q, m = q + 1 := ⟨m - 1, by omega⟩
    have hz := ba_size t
    have e0 : (t.data.toList.drop a).take (i - a) = t.data.toList.drop a := List.take_of_length_le (by rw [List.length_drop]; omega)
    rw [e0] at hc
    rw [sp_one hc] at hs
    refine ⟨joinN (outv * 1) g (fun z => [t.extract a t.size].getD z ByteArray.empty), ?_, ?_⟩
    · have := rep_snoc hD (t.extract a t.size) hr
      rw [ext_list, List.take_of_length_le (by rw [List.length_drop]; omega)] at this
      rw [hs]; exact this
    · simp only [spec_l01Split.l0, spec_l01Split.b0]
      have h1 : ¬ (i : Int) < (t.size : Int) := by omega
      simp only [h1, decide_false, Bool.false_eq_true, if_false, spec_l01Split.a0_0]
      have h2 : (0 : Int) ≤ (a : Int) ∧ (a : Int) ≤ (t.size : Int) ∧ (t.size : Int) ≤ (t.size : Int) := by omega
      have h3 : (outv + 1) * 16 ≤ 140737488355328 := by omega
      rw [if_pos h2, if_pos h3, hs, List.length_append, hD]
      simp only [Int.toNat_natCast]
      rfl
  | k + 1, i, outv, a, g, m, D, hi, hm, ha, ho, hD, hc, hr, hs => by
    obtain ⟨m, rfl⟩ : ∃ q, m = q + 1 := ⟨m - 1, by omega⟩
    have hz := ba_size t
    have hil : i < t.data.toList.length := by omega
    simp only [spec_l01Split.l0, spec_l01Split.b0]
    have h1 : (i : Int) < (t.size : Int) := by omega
    have h2 : (0 : Int) ≤ (i : Int) ∧ (i : Int) < (t.size : Int) := by omega
    have ew : IntKind.i64.wrap ((i : Int) + 1) = ((i + 1 : Nat) : Int) := by rw [wrap64_id (by omega) (by omega)]; omega
    simp only [h1, decide_true, if_true, h2, and_self, Int.toNat_natCast, ew, bt_at hil]
    by_cases h44 : t.data.toList[i] = 44
    · have hb : (((t.data.toList[i]).toNat : Int) == 44) = true := by rw [h44]; rfl
      have h3 : (0 : Int) ≤ (a : Int) ∧ (a : Int) ≤ (i : Int) ∧ (i : Int) ≤ (t.size : Int) := by omega
      have h4 : (outv + 1) * 16 ≤ 140737488355328 := by omega
      rw [if_pos hb, if_pos h3, if_pos h4]
      have hcut := cut_at ha hil
      rw [h44] at hcut
      refine split_loop K t ht k (i + 1) (outv + 1) (i + 1) _ m (D ++ [(t.extract a i).data.toList]) (by omega) (by omega) (Nat.le_refl _) (by omega) (by simp [hD]) ?_ (rep_snoc hD _ hr) ?_
      · rw [Nat.sub_self]; simp
      · rw [hs, hcut, sp_app, sp_one hc, ext_list, List.append_assoc]
    · have hb : ¬ (((t.data.toList[i]).toNat : Int) == 44) = true := fun e => h44 (by
        have := beq_iff_eq.1 e
        apply UInt8.toNat_inj.1
        show _ = 44
        omega)
      rw [if_neg hb]
      refine split_loop K t ht k (i + 1) outv a g m D (by omega) (by omega) (by omega) (by omega) hD ?_ hr hs
      rw [take_next ha hil, List.mem_append]
      intro h
      rcases h with h | h
      · exact hc h
      · exact h44 (List.mem_singleton.1 h).symm
theorem spec_split (K : Nat → (Nat → ByteArray) → Option ρ) (t : ByteArray) (ht : t.size ≤ 1000000) : ∃ G, rep G (sp t.data.toList) ∧ spec_l01Split 2000000 K t 44 = K (sp t.data.toList).length G := by
  have := ba_size t
  exact split_loop K t ht t.data.toList.length 0 0 0 (fun _ => ByteArray.empty) 2000000 [] (by omega) (by omega) (Nat.le_refl _) (Nat.le_refl _) rfl (by simp) (fun j x h => by simp at h) (by simp)
def dig (acc : Int) : List UInt8 → Int
  | [] => acc
  | c :: r => if (c.toNat : Int) < 48 ∨ (c.toNat : Int) > 57 then -1 else dig (acc * 10 + ((c.toNat : Int) - 48)) r
def numI (w : List UInt8) : Int :=
  if w.length = 0 then -1 else if w.length > 9 then -1 else if w.length > 1 ∧ w.head? = some 48 then -1 else dig 0 w
theorem num_l0 (K : Int → Option ρ) (s : ByteArray) (hs : s.data.toList.length ≤ 9) : ∀ (k i : Nat) (acc : Int) (m : Nat), i + k = s.data.toList.length → k < m → 0 ≤ acc → acc < 10 ^ i →
    spec_l01Number.l0 2000000 K s (fun ov3 => spec_l01Number.a0_0 2000000 K ov3) m acc (i : Int) = K (dig acc (s.data.toList.drop i))
  | 0, i, acc, m, hi, hm, h0, h1 => by
    obtain ⟨m, rfl⟩ : ∃ q, m = q + 1 := ⟨m - 1, by omega⟩
    have hz := ba_size s
    simp only [spec_l01Number.l0, spec_l01Number.b0]
    have g1 : ¬ (i : Int) < (s.size : Int) := by omega
    simp only [g1, decide_false, Bool.false_eq_true, if_false, spec_l01Number.a0_0]
    rw [List.drop_of_length_le (by omega)]; rfl
  | k + 1, i, acc, m, hi, hm, h0, h1 => by
    obtain ⟨m, rfl⟩ : ∃ q, m = q + 1 := ⟨m - 1, by omega⟩
    have hz := ba_size s
    have hil : i < s.data.toList.length := by omega
    have h9 : (10 : Int) ^ i ≤ 10 ^ 8 := by
      have : i ≤ 8 := by omega
      exact_mod_cast Nat.pow_le_pow_right (by omega) this
    have hb : ((s.data.toList[i]).toNat : Int) ≤ 255 := by have := (s.data.toList[i]).toNat_lt; omega
    simp only [spec_l01Number.l0, spec_l01Number.b0]
    have g1 : (i : Int) < (s.size : Int) := by omega
    have g2 : (0 : Int) ≤ (i : Int) ∧ (i : Int) < (s.size : Int) := by omega
    have ew : IntKind.i64.wrap ((i : Int) + 1) = ((i + 1 : Nat) : Int) := by rw [wrap64_id (by omega) (by omega)]; omega
    simp only [g1, decide_true, if_true, g2, and_self, Int.toNat_natCast, ew, bt_at hil]
    rw [drop_at hil]
    unfold dig
    by_cases hl : ((s.data.toList[i]).toNat : Int) < 48
    · simp only [hl, decide_true, if_true, true_or]
    · by_cases hg : ((s.data.toList[i]).toNat : Int) > 57
      · simp only [hl, hg, decide_false, decide_true, Bool.false_eq_true, if_false, if_true, or_true]
      · simp only [hl, hg, decide_false, Bool.false_eq_true, if_false, or_self]
        have hp : (10 : Int) ^ (i + 1) = 10 ^ i * 10 := Int.pow_succ ..
        rw [wrap8_id (by omega) (by omega), wrap64_id (x := acc * 10) (by omega) (by omega), wrap64_id (x := ((s.data.toList[i]).toNat : Int) - 48) (by omega) (by omega), wrap64_id (by omega) (by omega)]
        exact num_l0 K s hs k (i + 1) _ m (by omega) (by omega) (by omega) (by omega)
theorem num_l1 (K : Int → Option ρ) (s : ByteArray) (hs : s.data.toList.length ≤ 9) : ∀ (k i : Nat) (acc : Int) (m : Nat), i + k = s.data.toList.length → k < m → 0 ≤ acc → acc < 10 ^ i →
    spec_l01Number.l1 2000000 K s (fun ov3 => spec_l01Number.a1_0 2000000 K ov3) m acc (i : Int) = K (dig acc (s.data.toList.drop i))
  | 0, i, acc, m, hi, hm, h0, h1 => by
    obtain ⟨m, rfl⟩ : ∃ q, m = q + 1 := ⟨m - 1, by omega⟩
    have hz := ba_size s
    simp only [spec_l01Number.l1, spec_l01Number.b1]
    have g1 : ¬ (i : Int) < (s.size : Int) := by omega
    simp only [g1, decide_false, Bool.false_eq_true, if_false, spec_l01Number.a1_0]
    rw [List.drop_of_length_le (by omega)]; rfl
  | k + 1, i, acc, m, hi, hm, h0, h1 => by
    obtain ⟨m, rfl⟩ : ∃ q, m = q + 1 := ⟨m - 1, by omega⟩
    have hz := ba_size s
    have hil : i < s.data.toList.length := by omega
    have h9 : (10 : Int) ^ i ≤ 10 ^ 8 := by
      have : i ≤ 8 := by omega
      exact_mod_cast Nat.pow_le_pow_right (by omega) this
    have hb : ((s.data.toList[i]).toNat : Int) ≤ 255 := by have := (s.data.toList[i]).toNat_lt; omega
    simp only [spec_l01Number.l1, spec_l01Number.b1]
    have g1 : (i : Int) < (s.size : Int) := by omega
    have g2 : (0 : Int) ≤ (i : Int) ∧ (i : Int) < (s.size : Int) := by omega
    have ew : IntKind.i64.wrap ((i : Int) + 1) = ((i + 1 : Nat) : Int) := by rw [wrap64_id (by omega) (by omega)]; omega
    simp only [g1, decide_true, if_true, g2, and_self, Int.toNat_natCast, ew, bt_at hil]
    rw [drop_at hil]
    unfold dig
    by_cases hl : ((s.data.toList[i]).toNat : Int) < 48
    · simp only [hl, decide_true, if_true, true_or]
    · by_cases hg : ((s.data.toList[i]).toNat : Int) > 57
      · simp only [hl, hg, decide_false, decide_true, Bool.false_eq_true, if_false, if_true, or_true]
      · simp only [hl, hg, decide_false, Bool.false_eq_true, if_false, or_self]
        have hp : (10 : Int) ^ (i + 1) = 10 ^ i * 10 := Int.pow_succ ..
        rw [wrap8_id (by omega) (by omega), wrap64_id (x := acc * 10) (by omega) (by omega), wrap64_id (x := ((s.data.toList[i]).toNat : Int) - 48) (by omega) (by omega), wrap64_id (by omega) (by omega)]
        exact num_l1 K s hs k (i + 1) _ m (by omega) (by omega) (by omega) (by omega)
theorem spec_number (K : Int → Option ρ) (s : ByteArray) : spec_l01Number 2000000 K s = K (numI s.data.toList) := by
  have hz := ba_size s
  unfold spec_l01Number spec_l01Number.s numI
  by_cases h0 : s.data.toList.length = 0
  · have : ((s.size : Int) == 0) = true := by rw [beq_iff_eq]; omega
    rw [if_pos this, if_pos h0]
  · have g0 : ¬ ((s.size : Int) == 0) = true := by rw [beq_iff_eq]; omega
    rw [if_neg g0, if_neg h0]
    by_cases h9 : s.data.toList.length > 9
    · rw [if_pos (show decide ((s.size : Int) > 9) = true from decide_eq_true (by omega)), if_pos h9]
    · rw [if_neg (show ¬ decide ((s.size : Int) > 9) = true from fun e => by have := of_decide_eq_true e; omega), if_neg h9]
      have L0 := fun (m : Nat) (hm : s.data.toList.length < m) => num_l0 K s (by omega) s.data.toList.length 0 0 m (by omega) hm (by omega) (by simp)
      have L1 := fun (m : Nat) (hm : s.data.toList.length < m) => num_l1 K s (by omega) s.data.toList.length 0 0 m (by omega) hm (by omega) (by simp)
      rw [List.drop_zero] at L0 L1
      by_cases h1 : s.data.toList.length > 1
      · rw [if_pos (show decide ((s.size : Int) > 1) = true from decide_eq_true (by omega)), if_pos (show (0 : Int) ≤ 0 ∧ (0 : Int) < (s.size : Int) by omega), bt_at (show 0 < s.data.toList.length by omega)]
        have hh : s.data.toList.head? = some (s.data.toList[0]'(by omega)) := by rw [List.head?_eq_getElem?, List.getElem?_eq_getElem]
        by_cases h48 : s.data.toList[0]'(by omega) = 48
        · rw [if_pos (show (((s.data.toList[0]'(by omega)).toNat : Int) == 48) = true by rw [h48]; rfl), if_pos ⟨h1, by rw [hh, h48]⟩]
        · rw [if_neg, if_neg (fun e => h48 (by have := e.2; rw [hh] at this; exact Option.some.inj this))]
          · exact L0 2000000 (by omega)
          · intro e
            have := beq_iff_eq.1 e
            exact h48 (UInt8.toNat_inj.1 (by show _ = 48; omega))
      · rw [if_neg (show ¬ decide ((s.size : Int) > 1) = true from fun e => by have := of_decide_eq_true e; omega), if_neg (fun e => h1 e.1)]
        exact L1 2000000 (by omega)
theorem dig_ge : ∀ (l : List UInt8) (acc : Int), 0 ≤ acc → dig acc l = -1 ∨ acc ≤ dig acc l
  | [], acc, h => .inr (Int.le_refl _)
  | c :: r, acc, h => by
    unfold dig
    split
    · exact .inl rfl
    · rename_i hc
      rcases dig_ge r (acc * 10 + ((c.toNat : Int) - 48)) (by omega) with h1 | h1
      · exact .inl h1
      · exact .inr (by omega)
theorem u8_ofNat {k : Nat} (h : k < 256) : (UInt8.ofNat k).toNat = k := by
  rw [UInt8.toNat_ofNat']; omega
theorem u8_eq {c : UInt8} {k : Nat} (h : k < 256) (e : c.toNat = k) : UInt8.ofNat k = c := UInt8.toNat_inj.1 (by rw [u8_ofNat h, e])
theorem itoa_lo' {x : Nat} (h : x < 10) : (itoaS (x : Int)).data.toList = [UInt8.ofNat (48 + x)] := by rw [itoa_lo h]
theorem itoa_hi' {x : Nat} (h : 10 ≤ x) (h' : x < 100) : (itoaS (x : Int)).data.toList = [UInt8.ofNat (48 + x / 10), UInt8.ofNat (48 + x % 10)] := by rw [itoa_hi h h', ba_app]; rfl
theorem num_itoa {w : List UInt8} (h : 0 ≤ numI w) (h' : numI w < 100) : w = (itoaS (numI w)).data.toList := by
  match w with
  | [] => unfold numI at h; simp at h
  | [a] =>
    have e : numI [a] = dig 0 [a] := by unfold numI; simp
    rw [e] at h h' ⊢
    simp only [dig] at h h' ⊢
    split at h
    · omega
    · rename_i hc
      have e2 : (0 : Int) * 10 + ((a.toNat : Int) - 48) = ((a.toNat - 48 : Nat) : Int) := by omega
      rw [if_neg hc, e2, itoa_lo' (by omega), u8_eq (c := a) (by omega) (by omega)]
  | [a, b] =>
    by_cases h48 : a = 48
    · exfalso
      unfold numI at h; simp [h48] at h
    · have ha : a.toNat ≠ 48 := fun e => h48 (UInt8.toNat_inj.1 (by rw [e]; rfl))
      have e : numI [a, b] = dig 0 [a, b] := by unfold numI; simp [h48]
      rw [e] at h h' ⊢
      simp only [dig] at h h' ⊢
      split at h
      · omega
      · rename_i hc
        split at h
        · omega
        · rename_i hc2
          have e2 : ((0 : Int) * 10 + ((a.toNat : Int) - 48)) * 10 + ((b.toNat : Int) - 48) = (((a.toNat - 48) * 10 + (b.toNat - 48) : Nat) : Int) := by omega
          rw [if_neg hc, if_neg hc2, e2, itoa_hi' (by omega) (by omega), u8_eq (c := a) (by omega) (by omega), u8_eq (c := b) (by omega) (by omega)]
  | a :: b :: c :: r =>
    exfalso
    by_cases h48 : a = 48
    · unfold numI at h
      simp [h48] at h
    · have ha : a.toNat ≠ 48 := fun e => h48 (UInt8.toNat_inj.1 (by rw [e]; rfl))
      have e : numI (a :: b :: c :: r) = -1 ∨ numI (a :: b :: c :: r) = dig 0 (a :: b :: c :: r) := by
        unfold numI
        rw [if_neg (by simp)]
        split
        · exact .inl rfl
        · rw [if_neg (by simp [h48])]; exact .inr rfl
      rcases e with e | e
      · omega
      · rw [e] at h h'
        simp only [dig] at h h'
        split at h
        · omega
        · rename_i c1
          rw [if_neg c1] at h'
          split at h
          · omega
          · rename_i c2
            rw [if_neg c2] at h'
            split at h
            · omega
            · rename_i c3
              rw [if_neg c3] at h'
              rcases dig_ge r ((((0 : Int) * 10 + ((a.toNat : Int) - 48)) * 10 + ((b.toNat : Int) - 48)) * 10 + ((c.toNat : Int) - 48)) (by omega) with q | q <;> omega
theorem itoa_num {x : Nat} (h : x < 100) : numI (itoaS (x : Int)).data.toList = x := by
  by_cases h1 : x < 10
  · have e := u8_ofNat (k := 48 + x) (by omega)
    rw [itoa_lo' h1]
    unfold numI
    simp only [List.length_cons, List.length_nil, dig, e]
    rw [if_neg (by omega), if_neg (by omega), if_neg (by omega), if_neg (by omega)]
    omega
  · have e := u8_ofNat (k := 48 + x / 10) (by omega)
    have e2 := u8_ofNat (k := 48 + x % 10) (by omega)
    have ne : UInt8.ofNat (48 + x / 10) ≠ 48 := fun q => by
      have := congrArg UInt8.toNat q
      rw [e] at this
      have h48 : (48 : UInt8).toNat = 48 := rfl
      omega
    rw [itoa_hi' (by omega) h]
    unfold numI
    simp only [List.length_cons, List.length_nil, dig, e, e2]
    rw [if_neg (by omega), if_neg (by omega), if_neg (fun q => ne (Option.some.inj q.2)), if_neg (by omega), if_neg (by omega)]
    omega
theorem itoa_pu {x : Nat} (h : x < 100) : Lib.parseUintB 8 (itoaS (x : Int)).data.toList = .ok x := by
  unfold Lib.parseUintB
  by_cases h1 : x < 10
  · have e := u8_ofNat (k := 48 + x) (by omega)
    rw [itoa_lo' h1, if_neg (by simp)]
    simp only [Lib.parseUintM, e]
    rw [if_pos (by omega), if_neg (by omega), if_neg (by omega)]
    congr 1; omega
  · have e := u8_ofNat (k := 48 + x / 10) (by omega)
    have e2 := u8_ofNat (k := 48 + x % 10) (by omega)
    rw [itoa_hi' (by omega) h, if_neg (by simp)]
    simp only [Lib.parseUintM, e, e2]
    rw [if_pos (by omega), if_neg (by omega), if_neg (by omega), if_pos (by omega), if_neg (by omega), if_neg (by omega)]
    congr 1; omega
theorem itoa_comma {x : Nat} (h : x < 100) : (44 : UInt8) ∉ (itoaS (x : Int)).data.toList := by
  have ne : ∀ k, k < 10 → (44 : UInt8) ≠ UInt8.ofNat (48 + k) := fun k hk q => by
    have := congrArg UInt8.toNat q
    rw [u8_ofNat (by omega)] at this
    have h44 : (44 : UInt8).toNat = 44 := rfl
    omega
  by_cases h1 : x < 10
  · rw [itoa_lo' h1]
    intro q
    exact ne x h1 (List.mem_singleton.1 q)
  · rw [itoa_hi' (by omega) h]
    intro q
    rcases List.mem_cons.1 q with q | q
    · exact ne (x / 10) (by omega) q
    · exact ne (x % 10) (by omega) (List.mem_singleton.1 q)
theorem sp_txt {S : Nat → ByteArray} : ∀ {n : Nat}, 1 ≤ n → (∀ j, j < n → (44 : UInt8) ∉ (S j).data.toList) → sp (txt S n).data.toList = (List.range n).map fun j => (S j).data.toList
  | 0, h, _ => by omega
  | 1, _, h => by
    have : txt S 1 = S 0 := ba_nil _
    rw [this, sp_one (h 0 (by omega))]; rfl
  | n + 2, _, h => by
    have ih := sp_txt (S := S) (n := n + 1) (by omega) fun j hj => h j (by omega)
    have e : (txt S (n + 2)).data.toList = (txt S (n + 1)).data.toList ++ 44 :: (S (n + 1)).data.toList := by
      show (if 0 < n + 1 then (txt S (n + 1) ++ (ByteArray.mk #[44])) ++ S (n + 1) else txt S (n + 1) ++ S (n + 1)).data.toList = _
      rw [if_pos (by omega), ba_app, ba_app]; simp
    rw [e, sp_app, ih, sp_one (h (n + 1) (by omega)), List.range_succ (n := n + 1), List.map_append]
    rfl
def tells (t : ByteArray) (n : Nat) (p : Int) (x : Nat → Nat) : Prop := (∀ i, i < n → (x i : Int) < p) ∧ sp t.data.toList = (List.range n).map fun j => (itoaS (x j : Int)).data.toList
def vx (n : Nat) (x : Nat → Nat) : Nat → Int := fun z => if z < n then (x z : Int) else 0
theorem tells_at {t : ByteArray} {n : Nat} {p : Int} {x : Nat → Nat} (h : tells t n p x) {G : Nat → ByteArray} (hG : rep G (sp t.data.toList)) {j : Nat} (hj : j < n) : G j = itoaS (x j : Int) :=
  ba_ext (hG j _ (by rw [h.2, List.getElem?_map, List.getElem?_range hj]; rfl))
theorem fill_next {f : Nat → Int} {i : Nat} {a : Int} (h : a = f i) : upd (fun z => if z < i then f z else 0) i a = fun z => if z < i + 1 then f z else 0 := by
  funext z
  unfold upd
  by_cases e : z = i
  · subst e; simp [h]
  · rw [if_neg e]
    show (if z < i then f z else 0) = _
    by_cases e2 : z < i
    · rw [if_pos e2, if_pos (by omega)]
    · rw [if_neg e2, if_neg (by omega)]
theorem read_bad (K : (Nat → Int) → Bool → Option ρ) {p : Int} (hp : 2 ≤ p) (hp' : p ≤ 31) (n : Nat) (hn : n ≤ 8) (G : Nat → ByteArray) (out : (Nat → Int) → Option ρ) : ∀ (k i m : Nat) (g : Nat → Int), i + k = n → k < m →
    (∃ j, i ≤ j ∧ j < n ∧ ¬ (0 ≤ numI (G j).data.toList ∧ numI (G j).data.toList ≤ p - 1)) → spec_l01Read.l0 2000000 K p n G out m (i : Int) g = K (fun _ => 0) false
  | 0, i, m, g, hi, hm, ⟨j, h1, h2, h3⟩ => by omega
  | k + 1, i, m, g, hi, hm, ⟨j, h1, h2, h3⟩ => by
    obtain ⟨m, rfl⟩ : ∃ q, m = q + 1 := ⟨m - 1, by omega⟩
    simp only [spec_l01Read.l0, spec_l01Read.b0]
    have g1 : (i : Int) < (n : Int) := by omega
    have g2 : (0 : Int) ≤ (i : Int) ∧ (i : Int) < (n : Int) := by omega
    have g3 : (0 : Int) ≤ (i : Int) ∧ (i : Int) < 8 := by omega
    have ew : IntKind.i64.wrap (p - 1) = p - 1 := wrap64_id (by omega) (by omega)
    simp only [g1, decide_true, if_true, g2, g3, and_self, Int.toNat_natCast, Nat.mul_one, Nat.zero_add, spec_number, spec_in, ew, nx (show i < 100000 by omega)]
    by_cases hc : 0 ≤ numI (G i).data.toList ∧ numI (G i).data.toList ≤ p - 1
    · simp only [hc.1, hc.2, decide_true, Bool.and_self, Bool.not_true, Bool.false_eq_true, if_false]
      refine read_bad K hp hp' n hn G out k (i + 1) m _ (by omega) (by omega) ⟨j, ?_, h2, h3⟩
      by_cases e : i = j
      · subst e; exact absurd hc h3
      · omega
    · have : (decide (0 ≤ numI (G i).data.toList) && decide (numI (G i).data.toList ≤ p - 1)) = false := by
        simpa [-not_and, Classical.not_and_iff_not_or_not, Decidable.or_iff_not_imp_left] using hc
      simp only [this, Bool.not_false, if_true]
theorem spec_read (K : (Nat → Int) → Bool → Option ρ) {p : Int} (hp : 2 ≤ p) (hp' : p ≤ 31) {n : Nat} (h1 : 1 ≤ n) (hn : n ≤ 8) (t : ByteArray) (ht : t.size ≤ 1000000) :
    (∀ x, tells t n p x → spec_l01Read 2000000 K p n t = K (vx n x) true) ∧ ((¬ ∃ x, tells t n p x) → spec_l01Read 2000000 K p n t = K (fun _ => 0) false) := by
  have ew : IntKind.i64.wrap (p - 1) = p - 1 := wrap64_id (by omega) (by omega)
  obtain ⟨G, hG, e⟩ := spec_split (fun rv3 rv4 => (if ((rv3 : Int) != (n : Int)) = true then (K (fun _ => 0) false) else (spec_l01Read.l0 2000000 K p rv3 rv4 (fun ov9 => (spec_l01Read.a0_0 2000000 K ov9)) 2000000 0 (fun _ => 0)))) t ht
  have e' : spec_l01Read 2000000 K p n t = _ := e
  rw [e']
  constructor
  · intro x hx
    have hl : (sp t.data.toList).length = n := by rw [hx.2]; simp
    rw [hl, if_neg (by simp)]
    refine loop_at (n := n) (fun i => fun z => if z < i then (x z : Int) else 0) (by funext z; simp) (fun m i hi => ?_) (fun m => ?_) (by omega)
    · simp only [spec_l01Read.l0, spec_l01Read.b0]
      have g1 : (i : Int) < (n : Int) := by omega
      have g2 : (0 : Int) ≤ (i : Int) ∧ (i : Int) < (n : Int) := by omega
      have g3 : (0 : Int) ≤ (i : Int) ∧ (i : Int) < 8 := by omega
      have hxi := hx.1 i hi
      have g4 : (0 : Int) ≤ (x i : Int) := by omega
      have g5 : (x i : Int) ≤ p - 1 := by omega
      simp only [g1, decide_true, if_true, g2, g3, and_self, Int.toNat_natCast, Nat.mul_one, Nat.zero_add, spec_number, spec_in, ew, tells_at hx hG hi, itoa_num (show x i < 100 by omega), g4, g5, Bool.and_self, Bool.not_true, Bool.false_eq_true, if_false, nx (show i < 100000 by omega)]
      rw [fill_next (f := fun z => (x z : Int)) (wrap8_id (by omega) (by omega))]
    · simp only [spec_l01Read.l0, spec_l01Read.b0, Int.lt_irrefl, decide_false, Bool.false_eq_true, if_false, spec_l01Read.a0_0]
      rfl
  · intro hno
    by_cases hl : (sp t.data.toList).length = n
    · rw [hl, if_neg (by simp)]
      refine read_bad K hp hp' n hn G _ n 0 2000000 _ (by omega) (by omega) ?_
      refine Classical.byContradiction fun hc => hno ⟨fun j => (numI (G j).data.toList).toNat, ?_, ?_⟩
      · intro i hi
        have : 0 ≤ numI (G i).data.toList ∧ numI (G i).data.toList ≤ p - 1 := Classical.byContradiction fun q => hc ⟨i, by omega, hi, q⟩
        show (((numI (G i).data.toList).toNat : Nat) : Int) < p
        omega
      · refine List.ext_getElem? fun j => ?_
        by_cases hj : j < n
        · have : 0 ≤ numI (G j).data.toList ∧ numI (G j).data.toList ≤ p - 1 := Classical.byContradiction fun q => hc ⟨j, by omega, hj, q⟩
          rw [List.getElem?_map, List.getElem?_range hj, List.getElem?_eq_getElem (by omega)]
          show some _ = some _
          refine congrArg some ?_
          rw [← hG j _ (List.getElem?_eq_getElem (by omega))]
          show _ = (itoaS (((numI (G j).data.toList).toNat : Nat) : Int)).data.toList
          rw [Int.toNat_of_nonneg this.1]
          exact num_itoa this.1 (by omega)
        · rw [List.getElem?_eq_none (by omega), List.getElem?_eq_none (by simp; omega)]
    · rw [if_pos (by simp; omega)]
theorem pv_bad (K : (Nat → Int) → Int → Option ρ) (n : Nat) (hn : n ≤ 1000001) (w : Nat → ByteArray) (hw : ∀ j, j < n → (w j).size ≤ 1000000) (out : (Nat → Int) → Option ρ) : ∀ (k i m : Nat) (g : Nat → Int), i + k = n → k < m →
    (∃ j, i ≤ j ∧ j < n ∧ (puE (w j) = false ∨ 8 ≤ j)) → impl_ParseVector.l0 2000000 K n w out m (i : Int) g = K (fun _ => 0) 6
  | 0, i, m, g, hi, hm, ⟨j, h1, h2, h3⟩ => by omega
  | k + 1, i, m, g, hi, hm, ⟨j, h1, h2, h3⟩ => by
    obtain ⟨m, rfl⟩ : ∃ q, m = q + 1 := ⟨m - 1, by omega⟩
    simp only [impl_ParseVector.l0, impl_ParseVector.b0]
    have g1 : (i : Int) < (n : Int) := by omega
    have g2 : (0 : Int) ≤ (i : Int) ∧ (i : Int) < (n : Int) := by omega
    have ew : IntKind.i64.wrap ((i : Int) + 1) = ((i + 1 : Nat) : Int) := by rw [wrap64_id (by omega) (by omega)]; omega
    have g3 : (w i).size ≤ 281474976710656 := by have := hw i (by omega); omega
    simp only [g1, decide_true, if_true, g2, and_self, Int.toNat_natCast, Nat.mul_one, Nat.zero_add, strconv_ParseUint, g3, true_and, ew]
    cases hc : puE (w i) with
    | false => simp only [Bool.not_false, if_true]
    | true =>
      simp only [Bool.not_true, Bool.false_eq_true, if_false]
      by_cases h8 : 8 ≤ i
      · have : (i : Int) ≥ 8 := by omega
        simp only [this, decide_true, if_true]
      · have g4 : ¬ (i : Int) ≥ 8 := by omega
        have g5 : (0 : Int) ≤ (i : Int) ∧ (i : Int) < 8 := by omega
        simp only [g4, decide_false, Bool.false_eq_true, if_false, g5, and_self, if_true]
        refine pv_bad K n hn w hw out k (i + 1) m _ (by omega) (by omega) ⟨j, ?_, h2, h3⟩
        by_cases e : i = j
        · subst e
          rcases h3 with h3 | h3
          · rw [hc] at h3; cases h3
          · exact absurd h3 h8
        · omega
theorem pv_good (K : (Nat → Int) → Int → Option ρ) (n : Nat) (hn : n ≤ 8) (w : Nat → ByteArray) (hw : ∀ j, j < n → (w j).size ≤ 1000000) (hg : ∀ j, j < n → puE (w j) = true) (out : (Nat → Int) → Option ρ) :
    impl_ParseVector.l0 2000000 K n w out 2000000 0 (fun _ => 0) = out (fun z => if z < n then IntKind.u8.wrap (puV (w z)) else 0) := by
  refine loop_at (n := n) (fun i => fun z => if z < i then IntKind.u8.wrap (puV (w z)) else 0) (by funext z; simp) (fun m i hi => ?_) (fun m => ?_) (by omega)
  · simp only [impl_ParseVector.l0, impl_ParseVector.b0]
    have g1 : (i : Int) < (n : Int) := by omega
    have g2 : (0 : Int) ≤ (i : Int) ∧ (i : Int) < (n : Int) := by omega
    have g3 : (w i).size ≤ 281474976710656 := by have := hw i (by omega); omega
    have g4 : ¬ (i : Int) ≥ 8 := by omega
    have g5 : (0 : Int) ≤ (i : Int) ∧ (i : Int) < 8 := by omega
    simp only [g1, decide_true, if_true, g2, and_self, Int.toNat_natCast, Nat.mul_one, Nat.zero_add, strconv_ParseUint, g3, true_and, hg i hi, Bool.not_true, g4, decide_false, Bool.false_eq_true, if_false, g5, nx (show i < 100000 by omega)]
    rw [fill_next (f := fun z => IntKind.u8.wrap (puV (w z))) rfl]
  · simp only [impl_ParseVector.l0, impl_ParseVector.b0, Int.lt_irrefl, decide_false, Bool.false_eq_true, if_false]
theorem sp_len : ∀ l : List UInt8, (sp l).length ≤ l.length + 1
  | [] => Nat.le_refl 1
  | c :: r => by
    have ih := sp_len r
    simp only [sp]
    split
    · simp; omega
    · cases hs : sp r with
      | nil => simp
      | cons h t => rw [hs] at ih; simp at ih ⊢; omega
theorem sp_part : ∀ (l : List UInt8), ∀ u ∈ sp l, u.length ≤ l.length
  | [], u, h => by simp [sp] at h; subst h; exact Nat.le_refl _
  | c :: r, u, h => by
    have ih := sp_part r
    simp only [sp] at h
    split at h
    · rcases List.mem_cons.1 h with h | h
      · subst h; simp
      · have := ih u h; simp; omega
    · cases hs : sp r with
      | nil => exact absurd hs (sp_ne r)
      | cons a q =>
        rw [hs] at h ih
        rcases List.mem_cons.1 h with h | h
        · subst h; have := ih a (by simp); simp; omega
        · have := ih u (by simp [h]); simp; omega
theorem wrap8_rng (x : Int) : 0 ≤ IntKind.u8.wrap x ∧ IntKind.u8.wrap x ≤ 255 := by
  simp only [IntKind.wrap, IntKind.bits, IntKind.signed]
  first | omega | (simp; omega)
theorem impl_pv (K : (Nat → Int) → Int → Option ρ) {p : Int} (hp : 2 ≤ p) (hp' : p ≤ 31) {n : Nat} (h1 : 1 ≤ n) (hn : n ≤ 8) (hs : sizB p n = true) (t : ByteArray) (ht : t.size ≤ 1000000) :
    (∀ x, tells t n p x → impl_ParseVector 2000000 K p n t = K (vx n x) 0) ∧ ((¬ ∃ x, tells t n p x) → impl_ParseVector 2000000 K p n t = K (fun _ => 0) 6) := by
  have hz := ba_size t
  have hz0 : vecB p n (fun _ => 0) = true := by
    unfold vecB
    refine allN_true.2 fun j _ _ => ?_
    have : ¬ IntKind.i64.wrap (0 : Int) ≥ p := by rw [wrap64_id (by omega) (by omega)]; omega
    simp [this]
  have hG := rep_split t
  have hN := splitN_len t
  have hl1 := sp_len t.data.toList
  have hsz : ∀ j, j < (sp t.data.toList).length → (splitW t (ByteArray.mk #[44]) j).size ≤ 1000000 := fun j hj => by
    have e := hG j _ (List.getElem?_eq_getElem hj)
    rw [ba_size, e]
    have := sp_part t.data.toList _ (List.getElem_mem hj)
    omega
  have e0 : impl_ParseVector 2000000 K p n t = impl_ParseVector.l0 2000000 K (sp t.data.toList).length (splitW t (ByteArray.mk #[44])) (fun ov12 => impl_ParseVector.a0_0 2000000 K p n t ov12) 2000000 0 (fun _ => 0) := by
    unfold impl_ParseVector impl_ParseVector.s
    simp only [impl_isVector, hs, hz0, Bool.and_self, Bool.not_true, Bool.false_eq_true, if_false, strings_Split]
    rw [if_pos (show t.size < 4294967281 ∧ 1 ≤ (ByteArray.mk #[44]).size from ⟨by omega, Nat.le_refl 1⟩), hN]
  rw [e0]
  constructor
  · intro x hx
    have hl : (sp t.data.toList).length = n := by rw [hx.2]; simp
    have x100 : ∀ j, j < n → x j < 100 := fun j hj => by have := hx.1 j hj; omega
    have hw : ∀ j, j < n → splitW t (ByteArray.mk #[44]) j = itoaS (x j : Int) := fun j hj => tells_at hx hG hj
    have hpu : ∀ j, j < n → puE (splitW t (ByteArray.mk #[44]) j) = true := fun j hj => by unfold puE; rw [hw j hj, itoa_pu (x100 j hj)]
    have hpv : ∀ j, j < n → puV (splitW t (ByteArray.mk #[44]) j) = (x j : Int) := fun j hj => by unfold puV; rw [hw j hj, itoa_pu (x100 j hj)]
    rw [hl] at hsz ⊢
    rw [pv_good K n hn _ hsz hpu]
    have ev : (fun z => if z < n then IntKind.u8.wrap (puV (splitW t (ByteArray.mk #[44]) z)) else 0) = vx n x := by
      funext z
      unfold vx
      by_cases hzn : z < n
      · have := x100 z hzn
        rw [if_pos hzn, if_pos hzn, hpv z hzn, wrap8_id (by omega) (by omega)]
      · rw [if_neg hzn, if_neg hzn]
    simp only [ev, impl_ParseVector.a0_0, impl_isVector, hs, Bool.true_and]
    have hv : vecB p n (vx n x) = true := by
      unfold vecB
      refine allN_true.2 fun j _ hj => ?_
      unfold vx
      by_cases hjn : j < n
      · have q := hx.1 j hjn
        rw [if_pos hjn, wrap64_id (by omega) (by omega)]
        have q1 : ¬ (x j : Int) ≥ p := by omega
        have q2 : ¬ (j : Int) ≥ (n : Int) := by omega
        simp [q1, q2]
      · have q1 : ¬ IntKind.i64.wrap (0 : Int) ≥ p := by rw [wrap64_id (by omega) (by omega)]; omega
        rw [if_neg hjn]
        simp [q1]
    have hw8 : ∀ i, i < 8 → ∃ y : Nat, vx n x i = (y : Int) ∧ y < 100 := fun i hi => by
      unfold vx
      by_cases hin : i < n
      · exact ⟨x i, if_pos hin, x100 i hin⟩
      · exact ⟨0, if_neg hin, by omega⟩
    simp only [hv, Bool.not_true, Bool.false_eq_true, if_false]
    rw [impl_text _ h1 hn hw8]
    have et : txt (fun i => itoaS (vx n x i)) n = t := by
      refine ba_ext (sp_inj ?_)
      have c : txt (fun i => itoaS (vx n x i)) n = txt (fun i => itoaS (x i : Int)) n := txt_congr fun j hj => by
        show itoaS (vx n x j) = _
        unfold vx; rw [if_pos hj]
      rw [c, sp_txt h1 fun j hj => itoa_comma (x100 j hj), hx.2]
    rw [et]
    have rfls : strEq t t = true := by unfold strEq; simp
    simp only [rfls, Bool.not_true, Bool.false_eq_true, if_false]
  · intro hno
    by_cases hb : ∃ j, 0 ≤ j ∧ j < (sp t.data.toList).length ∧ (puE (splitW t (ByteArray.mk #[44]) j) = false ∨ 8 ≤ j)
    · exact pv_bad K _ (by omega) _ hsz _ _ 0 2000000 _ (Nat.zero_add _) (by omega) hb
    · have h8 : (sp t.data.toList).length ≤ 8 := by
        refine Classical.byContradiction fun q => hb ⟨8, by omega, by omega, .inr (Nat.le_refl _)⟩
      have hpu : ∀ j, j < (sp t.data.toList).length → puE (splitW t (ByteArray.mk #[44]) j) = true := fun j hj => by
        cases hc : puE (splitW t (ByteArray.mk #[44]) j) with
        | true => rfl
        | false => exact absurd ⟨j, Nat.zero_le _, hj, .inl hc⟩ hb
      rw [pv_good K _ h8 _ hsz hpu]
      generalize hv0 : (fun z => if z < (sp t.data.toList).length then IntKind.u8.wrap (puV (splitW t (ByteArray.mk #[44]) z)) else 0) = v
      have hr : ∀ z, 0 ≤ v z ∧ v z ≤ 255 := fun z => by
        subst hv0
        show 0 ≤ (if z < _ then IntKind.u8.wrap _ else (0 : Int)) ∧ (if z < _ then IntKind.u8.wrap _ else (0 : Int)) ≤ 255
        split
        · exact wrap8_rng _
        · omega
      simp only [impl_ParseVector.a0_0, impl_isVector, hs, Bool.true_and]
      by_cases hv : vecB p n v = true
      · have hlt : ∀ i, i < 8 → v i < p := fun i hi => by
          have hv := hv
          unfold vecB at hv
          have q := allN_true.1 hv i (by omega) (by omega)
          simp only [Bool.and_eq_true, Bool.not_eq_true', decide_eq_false_iff_not] at q
          have q1 := q.1
          have := hr i
          rw [wrap64_id (by omega) (by omega)] at q1
          omega
        have hw8 : ∀ i, i < 8 → ∃ y : Nat, v i = (y : Int) ∧ y < 100 := fun i hi => ⟨(v i).toNat, by have := hr i; omega, by have := hlt i hi; omega⟩
        simp only [hv, Bool.not_true, Bool.false_eq_true, if_false]
        rw [impl_text _ h1 hn hw8]
        cases hq : strEq (txt (fun i => itoaS (v i)) n) t with
        | false => simp only [Bool.not_false, if_true]
        | true =>
          exfalso
          have et := strEq_eq hq
          refine hno ⟨fun j => (v j).toNat, fun i hi => ?_, ?_⟩
          · have := hlt i (by omega)
            have := hr i
            show (((v i).toNat : Nat) : Int) < p
            omega
          · have ej : ∀ j, itoaS (v j) = itoaS (((v j).toNat : Nat) : Int) := fun j => by rw [Int.toNat_of_nonneg (hr j).1]
            rw [← et]
            have hcm : ∀ j, j < n → (44 : UInt8) ∉ ((fun i => itoaS (v i)) j).data.toList := fun j hj => by
              show (44 : UInt8) ∉ (itoaS (v j)).data.toList
              rw [ej j]
              exact itoa_comma (by have := hlt j (by omega); omega)
            rw [sp_txt h1 hcm]
            refine List.map_congr_left fun j _ => ?_
            show (itoaS (v j)).data.toList = _
            rw [ej j]
      · have hv' : vecB p n v = false := by simpa using hv
        simp only [hv', Bool.not_false, if_true]
theorem eqv_of (K : Bool → Option ρ) (a : Nat → Int) : laws_eqVector 2000000 K a a = K true := by
  refine loop_go (l := fun m i => laws_eqVector.l0 2000000 K a a (laws_eqVector.a0_0 2000000 K) m (i : Int)) (n := 8) (fun m i hi => ?_) (fun m => ?_) 8 0 2000000 (by omega) (by omega)
  · simp only [laws_eqVector.l0, laws_eqVector.b0]
    have h1 : (i : Int) < 8 := by omega
    have h2 : (0 : Int) ≤ i ∧ (i : Int) < 8 := by omega
    simp only [h1, h2, decide_true, if_true, and_self, Int.toNat_natCast, Nat.mul_one, bne_self_eq_false, Bool.false_eq_true, if_false, nx (show i < 100000 by omega)]
  · rfl
theorem isP_rng2 {p : Int} (h : isP p = true) : 2 ≤ p ∧ p ≤ 31 := isP_range h
theorem fnExactParseVector_law (K : Bool → Option ρ) (p n : Int) (t : ByteArray) (h0 : IntKind.i64.has p) (h1 : IntKind.i64.has n) (h2 : (t.size : Int) ≤ 9223372036854775807) : laws_FnExactParseVector 2000000 K p n t = K true := by
  unfold laws_FnExactParseVector
  by_cases hbig : (t.size : Int) > 1000000
  · rw [if_pos (decide_eq_true hbig)]
  · rw [if_neg (fun e => hbig (of_decide_eq_true e))]
    have ht : t.size ≤ 1000000 := by omega
    unfold spec_ParseVector
    rw [spec_sizes]
    by_cases hs : sizB p n = true
    · simp only [hs, Bool.not_true, Bool.false_eq_true, if_false]
      have hs' := hs
      unfold sizB at hs'
      simp only [Bool.and_eq_true, decide_eq_true_eq] at hs'
      obtain ⟨hp, n1, n8⟩ := hs'
      obtain ⟨p2, p31⟩ := isP_rng2 hp
      obtain ⟨m, rfl⟩ : ∃ m : Nat, n = (m : Int) := ⟨n.toNat, by omega⟩
      by_cases hg : ∃ x, tells t m p x
      · obtain ⟨x, hx⟩ := hg
        rw [(spec_read _ p2 p31 (by omega) (by omega) t ht).1 x hx]
        simp only [Bool.not_true, Bool.false_eq_true, if_false]
        rw [(impl_pv _ p2 p31 (by omega) (by omega) hs t ht).1 x hx, eqv_of]
        simp
      · rw [(spec_read _ p2 p31 (by omega) (by omega) t ht).2 hg]
        simp only [Bool.not_false, if_true]
        rw [(impl_pv _ p2 p31 (by omega) (by omega) hs t ht).2 hg, eqv_of]
        simp
    · have hs' : sizB p n = false := by simpa using hs
      simp only [hs', Bool.not_false, if_true]
      unfold impl_ParseVector impl_ParseVector.s
      simp only [impl_isVector, hs', Bool.false_and, Bool.not_false, if_true]
      rw [eqv_of]
      simp
end
end Go.Proofs.YtfdkkcaolajhoaaDoor.H
