/- CyclicTable, DihedralTable, QuaternionTable: outside the range both tell the same error; the tables in the range are run, one by one, by the kernel. -/
import Derived.Test.YtdlhegdigcdffaaHP0
import Derived.KernelRfl
namespace Go.Proofs.Ytdlhegdigcdffaa.H
set_option linter.unusedVariables false
set_option linter.unusedSimpArgs false
open Go Go.RowKit Go.Proofs.Ytdlhegdigcdffaa.Hy
set_option linter.unusedVariables false
set_option linter.unusedSimpArgs false
set_option maxRecDepth 100000

variable {ρ : Type}

theorem cyc_1 (K : Bool → Option ρ) : laws_FnExactCyclicTable 5000 K 1 = K true := by kernel_rfl
theorem cyc_2 (K : Bool → Option ρ) : laws_FnExactCyclicTable 5000 K 2 = K true := by kernel_rfl
theorem cyc_3 (K : Bool → Option ρ) : laws_FnExactCyclicTable 5000 K 3 = K true := by kernel_rfl
theorem cyc_4 (K : Bool → Option ρ) : laws_FnExactCyclicTable 5000 K 4 = K true := by kernel_rfl
theorem cyc_5 (K : Bool → Option ρ) : laws_FnExactCyclicTable 5000 K 5 = K true := by kernel_rfl
theorem cyc_6 (K : Bool → Option ρ) : laws_FnExactCyclicTable 5000 K 6 = K true := by kernel_rfl
theorem cyc_7 (K : Bool → Option ρ) : laws_FnExactCyclicTable 5000 K 7 = K true := by kernel_rfl
theorem cyc_8 (K : Bool → Option ρ) : laws_FnExactCyclicTable 5000 K 8 = K true := by kernel_rfl

theorem specCyc_out (N : Nat) (K) {n : Int} (h : ¬ (1 ≤ n ∧ n ≤ 8)) : spec_CyclicTable (ρ := ρ) N K n = K 0 2 0 (fun _ => 0) (fun _ => 0) (fun _ => 0) := by
  unfold spec_CyclicTable spec_l01In
  by_cases h1 : 1 ≤ n
  · have h2 : ¬ n ≤ 8 := fun e => h ⟨h1, e⟩
    simp [h1, h2]
  · simp [h1]
theorem implCyc_out (N : Nat) (K) {n : Int} (h : ¬ (1 ≤ n ∧ n ≤ 8)) : impl_CyclicTable (ρ := ρ) N K n = K 0 2 0 (fun _ => 0) (fun _ => 0) (fun _ => 0) := by
  unfold impl_CyclicTable impl_in
  by_cases h1 : 1 ≤ n
  · have h2 : ¬ n ≤ 8 := fun e => h ⟨h1, e⟩
    simp [h1, h2]
  · simp [h1]

theorem fnExactCyclicTable_law (K : Bool → Option ρ) (n : Int) (h0 : IntKind.i64.has n) : laws_FnExactCyclicTable 5000 K n = K true := by
  by_cases h : 1 ≤ n ∧ n ≤ 8
  · obtain ⟨h1, h2⟩ := h
    have : n = 1 ∨ n = 2 ∨ n = 3 ∨ n = 4 ∨ n = 5 ∨ n = 6 ∨ n = 7 ∨ n = 8 := by omega
    rcases this with rfl | rfl | rfl | rfl | rfl | rfl | rfl | rfl
    · exact cyc_1 K
    · exact cyc_2 K
    · exact cyc_3 K
    · exact cyc_4 K
    · exact cyc_5 K
    · exact cyc_6 K
    · exact cyc_7 K
    · exact cyc_8 K
  · unfold laws_FnExactCyclicTable
    simp only [specCyc_out _ _ h, implCyc_out _ _ h]
    kernel_rfl

theorem dih_3 (K : Bool → Option ρ) : laws_FnExactDihedralTable 5000 K 3 = K true := by kernel_rfl
theorem dih_4 (K : Bool → Option ρ) : laws_FnExactDihedralTable 5000 K 4 = K true := by kernel_rfl
theorem specDih_out (N : Nat) (K) {n : Int} (h : n ≠ 3) (h' : n ≠ 4) : spec_DihedralTable (ρ := ρ) N K n = K 0 2 0 (fun _ => 0) (fun _ => 0) (fun _ => 0) := by
  unfold spec_DihedralTable
  simp [h, h']
theorem implDih_out (N : Nat) (K) {n : Int} (h : n ≠ 3) (h' : n ≠ 4) : impl_DihedralTable (ρ := ρ) N K n = K 0 2 0 (fun _ => 0) (fun _ => 0) (fun _ => 0) := by
  unfold impl_DihedralTable
  simp [h, h']
theorem fnExactDihedralTable_law (K : Bool → Option ρ) (n : Int) (h0 : IntKind.i64.has n) : laws_FnExactDihedralTable 5000 K n = K true := by
  by_cases h : n = 3
  · subst h; exact dih_3 K
  · by_cases h' : n = 4
    · subst h'; exact dih_4 K
    · unfold laws_FnExactDihedralTable
      simp only [specDih_out _ _ h h', implDih_out _ _ h h']
      kernel_rfl

theorem fnExactQuaternionTable_law (K : Bool → Option ρ) : laws_FnExactQuaternionTable 5000 K = K true := by kernel_rfl
end Go.Proofs.Ytdlhegdigcdffaa.H
