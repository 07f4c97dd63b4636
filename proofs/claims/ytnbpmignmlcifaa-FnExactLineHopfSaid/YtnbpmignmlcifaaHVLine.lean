/- LineHopf: outside the range both tell the same error; the seventeen lines are run, one by one, by the kernel. -/
import Derived.Test.YtnbpmignmlcifaaHV0f
namespace Go.Proofs.Ytnbpmignmlcifaa.H
set_option linter.unusedVariables false
set_option linter.unusedSimpArgs false
open Go Go.RowKit Go.Proofs.Ytnbpmignmlcifaa.Hx
set_option linter.unusedVariables false
set_option linter.unusedSimpArgs false
set_option maxRecDepth 100000

variable {ρ : Type}

theorem none_eq (K : Bool → Option ρ) : laws_eqHopf 5000 (fun r8 => (if (!r8) = true then (K false) else (if ((2 : Int) != 2) = true then (K false) else (K true)))) (fun _ => 0) (fun _ => 0) (fun _ => 0) (fun _ => 0) = K true := by kernel_rfl

theorem line_2_0 (K : Bool → Option ρ) : laws_FnExactLineHopf 5000 K 2 0 = K true := by kernel_rfl
theorem line_2_1 (K : Bool → Option ρ) : laws_FnExactLineHopf 5000 K 2 1 = K true := by kernel_rfl
theorem line_3_0 (K : Bool → Option ρ) : laws_FnExactLineHopf 5000 K 3 0 = K true := by kernel_rfl
theorem line_3_1 (K : Bool → Option ρ) : laws_FnExactLineHopf 5000 K 3 1 = K true := by kernel_rfl
theorem line_3_2 (K : Bool → Option ρ) : laws_FnExactLineHopf 5000 K 3 2 = K true := by kernel_rfl
theorem line_5_0 (K : Bool → Option ρ) : laws_FnExactLineHopf 5000 K 5 0 = K true := by kernel_rfl
theorem line_5_1 (K : Bool → Option ρ) : laws_FnExactLineHopf 5000 K 5 1 = K true := by kernel_rfl
theorem line_5_2 (K : Bool → Option ρ) : laws_FnExactLineHopf 5000 K 5 2 = K true := by kernel_rfl
theorem line_5_3 (K : Bool → Option ρ) : laws_FnExactLineHopf 5000 K 5 3 = K true := by kernel_rfl
theorem line_5_4 (K : Bool → Option ρ) : laws_FnExactLineHopf 5000 K 5 4 = K true := by kernel_rfl
theorem line_7_0 (K : Bool → Option ρ) : laws_FnExactLineHopf 5000 K 7 0 = K true := by kernel_rfl
theorem line_7_1 (K : Bool → Option ρ) : laws_FnExactLineHopf 5000 K 7 1 = K true := by kernel_rfl
theorem line_7_2 (K : Bool → Option ρ) : laws_FnExactLineHopf 5000 K 7 2 = K true := by kernel_rfl
theorem line_7_3 (K : Bool → Option ρ) : laws_FnExactLineHopf 5000 K 7 3 = K true := by kernel_rfl
theorem line_7_4 (K : Bool → Option ρ) : laws_FnExactLineHopf 5000 K 7 4 = K true := by kernel_rfl
theorem line_7_5 (K : Bool → Option ρ) : laws_FnExactLineHopf 5000 K 7 5 = K true := by kernel_rfl
theorem line_7_6 (K : Bool → Option ρ) : laws_FnExactLineHopf 5000 K 7 6 = K true := by kernel_rfl

theorem line_out (K : Bool → Option ρ) {p k : Int} (hp : isP p = true) (hk : ¬ (p ≤ 7 ∧ 0 ≤ k ∧ k ≤ p - 1)) : laws_FnExactLineHopf 5000 K p k = K true := by
  obtain ⟨h2, h31⟩ := isP_range hp
  have e : IntKind.i64.wrap (p - 1) = p - 1 := wrap64_id (by omega) (by omega)
  simp only [laws_FnExactLineHopf, spec_LineHopf, impl_LineHopf, spec_prime, impl_prime, hp, Bool.not_true, Bool.false_eq_true, if_false, spec_in, impl_in_eq, e]
  by_cases h7 : p > 7
  · simp only [decide_eq_true h7, if_true]
    exact none_eq K
  · have hb : (decide (0 ≤ k) && decide (k ≤ p - 1)) = false := by
      rw [Bool.and_eq_false_iff]
      by_cases h0 : 0 ≤ k
      · exact .inr (decide_eq_false (by omega))
      · exact .inl (decide_eq_false h0)
    simp only [decide_eq_false h7, hb, Bool.not_false, Bool.false_eq_true, if_false, if_true]
    exact none_eq K

theorem fnExactLineHopf_law (K : Bool → Option ρ) (p k : Int) (h0 : IntKind.i64.has p) (h1 : IntKind.i64.has k) : laws_FnExactLineHopf 5000 K p k = K true := by
  by_cases hp : isP p = true
  · by_cases hk : p ≤ 7 ∧ 0 ≤ k ∧ k ≤ p - 1
    · have hq : p = 2 ∨ p = 3 ∨ p = 5 ∨ p = 7 := by
        unfold isP at hp
        have := of_decide_eq_true hp
        simp only [List.mem_cons, List.not_mem_nil, or_false] at this
        omega
      obtain ⟨_, k0, k1⟩ := hk
      rcases hq with rfl | rfl | rfl | rfl
      · have : k = 0 ∨ k = 1 := by omega
        rcases this with rfl | rfl
        · exact line_2_0 K
        · exact line_2_1 K
      · have : k = 0 ∨ k = 1 ∨ k = 2 := by omega
        rcases this with rfl | rfl | rfl
        · exact line_3_0 K
        · exact line_3_1 K
        · exact line_3_2 K
      · have : k = 0 ∨ k = 1 ∨ k = 2 ∨ k = 3 ∨ k = 4 := by omega
        rcases this with rfl | rfl | rfl | rfl | rfl
        · exact line_5_0 K
        · exact line_5_1 K
        · exact line_5_2 K
        · exact line_5_3 K
        · exact line_5_4 K
      · have : k = 0 ∨ k = 1 ∨ k = 2 ∨ k = 3 ∨ k = 4 ∨ k = 5 ∨ k = 6 := by omega
        rcases this with rfl | rfl | rfl | rfl | rfl | rfl | rfl
        · exact line_7_0 K
        · exact line_7_1 K
        · exact line_7_2 K
        · exact line_7_3 K
        · exact line_7_4 K
        · exact line_7_5 K
        · exact line_7_6 K
    · exact line_out K hp hk
  · have hp' : isP p = false := by simpa using hp
    simp only [laws_FnExactLineHopf, spec_LineHopf, impl_LineHopf, spec_prime, impl_prime, hp', Bool.not_false, if_true]
    exact none_eq K

end Go.Proofs.Ytnbpmignmlcifaa.H
