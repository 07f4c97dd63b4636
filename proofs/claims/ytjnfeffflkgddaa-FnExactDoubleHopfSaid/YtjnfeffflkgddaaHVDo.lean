/- DoubleHopf: for a number that is none of the primes both tell the same error; the primes are run, one by one, by the kernel. -/
import Derived.Test.YtjnfeffflkgddaaHV0g
namespace Go.Proofs.Ytjnfeffflkgddaa.H
set_option linter.unusedVariables false
set_option linter.unusedSimpArgs false
open Go Go.RowKit Go.Proofs.Ytjnfeffflkgddaa.Hx
set_option linter.unusedVariables false
set_option linter.unusedSimpArgs false
set_option maxRecDepth 100000

variable {ρ : Type}

theorem none_eq (K : Bool → Option ρ) : laws_eqHopf 5000 (fun r8 => (if (!r8) = true then (K false) else (if ((2 : Int) != 2) = true then (K false) else (K true)))) (fun _ => 0) (fun _ => 0) (fun _ => 0) (fun _ => 0) = K true := by kernel_rfl

theorem at_2 (K : Bool → Option ρ) : laws_FnExactDoubleHopf 5000 K 2 = K true := by kernel_rfl
theorem at_3 (K : Bool → Option ρ) : laws_FnExactDoubleHopf 5000 K 3 = K true := by kernel_rfl
theorem at_5 (K : Bool → Option ρ) : laws_FnExactDoubleHopf 5000 K 5 = K true := by kernel_rfl
theorem at_7 (K : Bool → Option ρ) : laws_FnExactDoubleHopf 5000 K 7 = K true := by kernel_rfl
theorem at_11 (K : Bool → Option ρ) : laws_FnExactDoubleHopf 5000 K 11 = K true := by kernel_rfl
theorem at_13 (K : Bool → Option ρ) : laws_FnExactDoubleHopf 5000 K 13 = K true := by kernel_rfl
theorem at_17 (K : Bool → Option ρ) : laws_FnExactDoubleHopf 5000 K 17 = K true := by kernel_rfl
theorem at_19 (K : Bool → Option ρ) : laws_FnExactDoubleHopf 5000 K 19 = K true := by kernel_rfl
theorem at_23 (K : Bool → Option ρ) : laws_FnExactDoubleHopf 5000 K 23 = K true := by kernel_rfl
theorem at_29 (K : Bool → Option ρ) : laws_FnExactDoubleHopf 5000 K 29 = K true := by kernel_rfl
theorem at_31 (K : Bool → Option ρ) : laws_FnExactDoubleHopf 5000 K 31 = K true := by kernel_rfl

theorem fnExactDoubleHopf_law (K : Bool → Option ρ) (p : Int) (h0 : IntKind.i64.has p) : laws_FnExactDoubleHopf 5000 K p = K true := by
  by_cases hp : isP p = true
  · have hq : p = 2 ∨ p = 3 ∨ p = 5 ∨ p = 7 ∨ p = 11 ∨ p = 13 ∨ p = 17 ∨ p = 19 ∨ p = 23 ∨ p = 29 ∨ p = 31 := by
      unfold isP at hp
      have := of_decide_eq_true hp
      simpa only [List.mem_cons, List.not_mem_nil, or_false] using this
    rcases hq with rfl | rfl | rfl | rfl | rfl | rfl | rfl | rfl | rfl | rfl | rfl
    · exact at_2 K
    · exact at_3 K
    · exact at_5 K
    · exact at_7 K
    · exact at_11 K
    · exact at_13 K
    · exact at_17 K
    · exact at_19 K
    · exact at_23 K
    · exact at_29 K
    · exact at_31 K
  · have hp' : isP p = false := by simpa using hp
    simp only [laws_FnExactDoubleHopf, spec_DoubleHopf, impl_DoubleHopf, impl_isOdd, spec_prime, impl_prime, hp', Bool.not_false, Bool.false_eq_true, if_false, if_true]
    exact none_eq K

end Go.Proofs.Ytjnfeffflkgddaa.H
