/- IsVector: the law's own value is true, for every prime, size and vector. No condition. -/
import Derived.Test.YtdlhegdigcdffaaHP
import Derived.KernelRfl
namespace Go.Proofs.Ytdlhegdigcdffaa.H
set_option linter.unusedVariables false
set_option linter.unusedSimpArgs false
open Go Go.RowKit Go.Proofs.Ytdlhegdigcdffaa.Hx
set_option maxRecDepth 100000

def isP (p : Int) : Bool := decide (p ∈ [2, 3, 5, 7, 11, 13, 17, 19, 23, 29, 31])

theorem thirty {p : Int} (h : 2 ≤ p) (h' : p ≤ 31) : p = 2 ∨ p = 3 ∨ p = 4 ∨ p = 5 ∨ p = 6 ∨ p = 7 ∨ p = 8 ∨ p = 9 ∨ p = 10 ∨ p = 11 ∨ p = 12 ∨ p = 13 ∨ p = 14 ∨ p = 15 ∨ p = 16 ∨ p = 17 ∨ p = 18 ∨ p = 19 ∨ p = 20 ∨ p = 21 ∨ p = 22 ∨ p = 23 ∨ p = 24 ∨ p = 25 ∨ p = 26 ∨ p = 27 ∨ p = 28 ∨ p = 29 ∨ p = 30 ∨ p = 31 := by omega

theorem isP_no {p : Int} (h : p < 2 ∨ 31 < p) : isP p = false := by
  unfold isP
  apply decide_eq_false
  simp only [List.mem_cons, List.not_mem_nil, or_false]
  omega

variable {ρ : Type}

theorem wrap_small {i : Int} (h : -9223372036854775808 ≤ i) (h' : i ≤ 9223372036854775807) : IntKind.i64.wrap i = i := by
  simp only [IntKind.wrap, IntKind.bits, IntKind.signed]
  first | omega | (simp; omega)

theorem spec_prime_high (K : Bool → Option ρ) (p : Int) (h : 31 < p) : ∀ n : Nat, n ≤ 30 → ∀ m, n < m → spec_l01Prime.l0 1000 K p (spec_l01Prime.a0_0 1000 K p) m (32 - n) = K false := by
  intro n
  induction n with
  | zero =>
    intro _ m hm
    obtain ⟨m, rfl⟩ : ∃ k, m = k + 1 := ⟨m - 1, by omega⟩
    simp only [spec_l01Prime.l0, spec_l01Prime.b0, spec_l01Prime.a0_0, spec_l01In]
    have h2 : ¬ (p ≤ 31) := by omega
    have h3 : (2 : Int) ≤ p := by omega
    simp [h2, h3]
  | succ n ih =>
    intro hn m hm
    obtain ⟨m, rfl⟩ : ∃ k, m = k + 1 := ⟨m - 1, by omega⟩
    have ih := ih (by omega) m (by omega)
    have e : IntKind.i64.wrap ((32 : Int) - ((n + 1 : Nat) : Int) + 1) = 32 - (n : Int) := by
      rw [wrap_small (by omega) (by omega)]; omega
    have hd : (32 : Int) - ((n + 1 : Nat) : Int) < p := by omega
    have h31 : (32 : Int) - ((n + 1 : Nat) : Int) ≤ 31 := by omega
    have h0 : ¬ ((32 : Int) - ((n + 1 : Nat) : Int) = 0) := by omega
    simp only [spec_l01Prime.l0, spec_l01Prime.b0, hd, h31, h0, decide_true, if_true, if_false, e, ih]
    split <;> rfl

theorem spec_prime (K : Bool → Option ρ) (p : Int) : spec_l01Prime 1000 K p = K (isP p) := by
  by_cases h2 : p < 2
  · rw [isP_no (.inl h2)]
    have h3 : ¬ (2 < p) := by omega
    have h4 : ¬ (p ≥ 2) := by omega
    show spec_l01Prime.b0 1000 K _ _ p 2 = _
    simp [spec_l01Prime.b0, spec_l01Prime.a0_0, spec_l01In, h3, h4]
  · by_cases h31 : 31 < p
    · rw [isP_no (.inr h31)]
      exact spec_prime_high K p h31 30 (by omega) 1000 (by omega)
    · rcases thirty (Int.not_lt.1 h2) (Int.not_lt.1 h31) with h|h|h|h|h|h|h|h|h|h|h|h|h|h|h|h|h|h|h|h|h|h|h|h|h|h|h|h|h|h <;> subst h <;> kernel_rfl

theorem impl_prime (K : Bool → Option ρ) (p : Int) : impl_IsPrime 1000 K p = K (isP p) := by
  by_cases h2 : p < 2
  · rw [isP_no (.inl h2)]
    simp [impl_IsPrime, impl_IsPrime.s, h2]
  · by_cases h31 : 31 < p
    · rw [isP_no (.inr h31)]
      have h3 : p > 31 := h31
      simp [impl_IsPrime, impl_IsPrime.s, h2, h3]
    · rcases thirty (Int.not_lt.1 h2) (Int.not_lt.1 h31) with h|h|h|h|h|h|h|h|h|h|h|h|h|h|h|h|h|h|h|h|h|h|h|h|h|h|h|h|h|h <;> subst h <;> kernel_rfl

def chk (K : Bool → Option ρ) (p n : Int) (v : Nat → Int) : List Nat → Option ρ
  | [] => K true
  | i :: r => if (decide (IntKind.i64.wrap (v i) ≥ p)) = true then K false else if (decide ((i : Int) ≥ n)) = true then (if (v i != 0) = true then K false else chk K p n v r) else chk K p n v r

theorem spec_vector (K : Bool → Option ρ) (p n : Int) (v : Nat → Int) : spec_l01Vector 1000 K p n v = chk K p n v [0, 1, 2, 3, 4, 5, 6, 7] := by kernel_rfl

def cp (a : Nat → Int) : Nat → Int := fun i => if i < 8 then a i else 0

theorem toVector_eq (K : (Nat → Int) → Option ρ) (a : Nat → Int) : laws_toVector 1000 K a = K (upd (upd (upd (upd (upd (upd (upd (upd (fun _ => 0) 0 (a 0)) 1 (a 1)) 2 (a 2)) 3 (a 3)) 4 (a 4)) 5 (a 5)) 6 (a 6)) 7 (a 7)) := by kernel_rfl

theorem sizes_eq (K : Bool → Option ρ) (p n : Int) : spec_l01Sizes 1000 K p n = K (isP p && (decide (1 ≤ n) && decide (n ≤ 8))) := by
  unfold spec_l01Sizes
  rw [spec_prime]
  cases isP p <;> simp [spec_l01In]
  split <;> simp [*]

theorem impl_vector (K : Bool → Option ρ) (p n : Int) (v : Nat → Int) : impl_IsVector.l0 1000 K p n v (impl_IsVector.a0_0 1000 K) 1000 0 = chk K p n v [0, 1, 2, 3, 4, 5, 6, 7] := by kernel_rfl

theorem impl_isVector (K : Bool → Option ρ) (p n : Int) (v : Nat → Int) : impl_IsVector 1000 K p n v = if (isP p && (decide (1 ≤ n) && decide (n ≤ 8))) = true then chk K p n v [0, 1, 2, 3, 4, 5, 6, 7] else K false := by
  simp only [impl_IsVector, impl_IsVector.s, impl_prime, impl_in, impl_vector]
  cases isP p
  · simp
  · by_cases h1 : 1 ≤ n
    · by_cases h8 : n ≤ 8
      · simp [h1, h8]
      · simp [h1, h8]
    · simp [h1]

theorem spec_isVector (K : Bool → Option ρ) (p n : Int) (v : Nat → Int) : spec_IsVector 1000 K p n v = if (isP p && (decide (1 ≤ n) && decide (n ≤ 8))) = true then chk K p n v [0, 1, 2, 3, 4, 5, 6, 7] else K false := by
  simp only [spec_IsVector, sizes_eq, spec_vector]

theorem chk_K (K : Bool → Option ρ) (p n : Int) (v : Nat → Int) (l : List Nat) : chk K p n v l = (match chk some p n v l with | some b => K b | none => none) := by
  induction l with
  | nil => rfl
  | cons i r ih =>
    simp only [chk]
    split
    · rfl
    · split
      · split
        · rfl
        · exact ih
      · exact ih

theorem isVector_law (K : Bool → Option ρ) (p n : Int) (v : Nat → Int) : laws_FnExactIsVector 1000 K p n v = K true := by
  simp only [laws_FnExactIsVector, toVector_eq, impl_isVector, spec_isVector]
  split
  · rename_i h
    rw [chk_K]
    generalize hx : chk some p n _ [0, 1, 2, 3, 4, 5, 6, 7] = x
    cases x with
    | none =>
      exfalso
      have : ∀ l, chk some p n (upd (upd (upd (upd (upd (upd (upd (upd (fun _ => 0) 0 (v 0)) 1 (v 1)) 2 (v 2)) 3 (v 3)) 4 (v 4)) 5 (v 5)) 6 (v 6)) 7 (v 7)) l ≠ none := by
        intro l
        induction l with
        | nil => simp [chk]
        | cons i r ih =>
          simp only [chk]
          split
          · simp
          · split
            · split
              · simp
              · exact ih
            · exact ih
      exact this _ hx
    | some b =>
      simp only
      rw [chk_K, hx]
      simp
  · rename_i h
    simp

end Go.Proofs.Ytdlhegdigcdffaa.H
