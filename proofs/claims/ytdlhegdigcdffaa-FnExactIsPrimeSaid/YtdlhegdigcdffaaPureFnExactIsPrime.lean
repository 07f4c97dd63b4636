/- IsPrime: for every whole number of 64 bits the law's own value is true: the reference and the program tell the same of it. No condition but the width. -/
import Derived.Test.YtdlhegdigcdffaaPFnExactIsPrimex1
namespace Go.Proofs.Ytdlhegdigcdffaa.Pure
open Go.RowKit Go.Proofs.Ytdlhegdigcdffaa.PFnExactIsPrime Go.Proofs.YtdlhegdigcdffaaW.PrintWords Go.Proofs.YtdlhegdigcdffaaW.PrintLast

theorem high (a0 : Int) (h : 31 < a0) : ∀ n : Nat, n ≤ 30 → spec_l01Prime.l0 (2 * n + 2) a0 (32 - n) = some false := by
  intro n
  induction n with
  | zero =>
    intro _
    show spec_l01Prime.l0 2 a0 32 = some false
    have h2 : ¬ (a0 ≤ 31) := by omega
    have h3 : (2 : Int) ≤ a0 := by omega
    simp [spec_l01Prime.l0, spec_l01Prime.j1, spec_l01In.f, h2, h3]
  | succ n ih =>
    intro hn
    have ih := ih (by omega)
    have e : 2 * (n + 1) + 2 = (2 * n + 2) + 1 + 1 := by omega
    rw [e]
    have hd : (32 : Int) - ((n + 1 : Nat) : Int) < a0 := by omega
    have h31 : (32 : Int) - ((n + 1 : Nat) : Int) ≤ 31 := by omega
    have h0 : ¬ ((32 : Int) - ((n + 1 : Nat) : Int) = 0) := by omega
    have hw : wrap64 ((32 : Int) - ((n + 1 : Nat) : Int) + 1) = 32 - (n : Int) := by
      unfold wrap64; omega
    simp only [spec_l01Prime.l0, spec_l01Prime.j1, hd, h31, h0, if_true, if_false, decide_true, hw]
    split
    · rfl
    · exact ih

theorem FnExactIsPrime : laws_FnExactIsPrime.Pure := by
  intro a0 _
  refine ⟨62, ?_⟩
  by_cases h1 : a0 < 2
  · have h2 : ¬ (2 < a0) := by omega
    have h3 : ¬ (a0 ≥ 2) := by omega
    simp [laws_FnExactIsPrime.f, spec_IsPrime.f, spec_l01Prime.f, spec_l01Prime.l0, spec_l01Prime.j1, spec_l01In.f, impl_IsPrime.f, impl_IsPrime.j0, h1, h2, h3]
  · by_cases h2 : 31 < a0
    · have hs := high a0 h2 30 (by omega)
      have hs' : spec_l01Prime.l0 62 a0 2 = some false := hs
      have h3 : a0 > 31 := h2
      simp [laws_FnExactIsPrime.f, spec_IsPrime.f, spec_l01Prime.f, hs', impl_IsPrime.f, impl_IsPrime.j0, h1, h3]
    · have hall : ∀ n : Fin 30, laws_FnExactIsPrime.f 62 ((n.val : Int) + 2) = some true := by decide +kernel
      have := hall ⟨(a0 - 2).toNat, by omega⟩
      have e : (((a0 - 2).toNat : Nat) : Int) + 2 = a0 := by omega
      rw [e] at this
      exact this

end Go.Proofs.Ytdlhegdigcdffaa.Pure
