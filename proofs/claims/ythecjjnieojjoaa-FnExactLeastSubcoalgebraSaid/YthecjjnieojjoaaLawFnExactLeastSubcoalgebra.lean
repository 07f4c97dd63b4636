/- FnExactLeastSubcoalgebra: the given row. The law returns true for all arguments. No condition. -/
import Derived.Test.YthecjjnieojjoaaRows
import Derived.Test.YthecjjnieojjoaaHL3
import Derived.Test.YthecjjnieojjoaaHDL
import Derived.Test.YthecjjnieojjoaaHyArg
namespace Go.Proofs.Ythecjjnieojjoaa.fnExactLeastSubcoalgebra
set_option linter.unusedVariables false
set_option linter.unusedSimpArgs false
open Go Go.Proofs.Ythecjjnieojjoaa.Hy Go.ChangeShapes Go.WideShapes Go.ChangeAt Go.RowKit
set_option linter.unusedVariables false

theorem fnok (g0_0 : Nat → Int) (g0_1 : Nat → Int) (g1_0 : Nat → Int) (h0 : ∀ i, IntKind.i64.has (g0_0 i)) (h1 : ∀ i, IntKind.u8.has (g0_1 i)) (h2 : ∀ i, IntKind.u8.has (g1_0 i)) : FnOk Try.prog 12 [.agg [⟨.i64, 2, g0_0⟩, ⟨.u8, 520, g0_1⟩], .agg [⟨.u8, 8, g1_0⟩]] [] (.bool true) [] := by
  obtain ⟨v, sh', h1, h2⟩ := fn_ok (H.E65_ok 6000) (kp := H.laws_FnExactLeastSubcoalgebra.kp) (N := 6000) Try.func12 (c := H.laws_FnExactLeastSubcoalgebra.bd) (by kernel_rfl) ((H.laws_FnExactLeastSubcoalgebra.eq 6000 (fun v h => some (v, h)) g0_0 g0_1 g1_0).trans (H.fnExactLeastSubcoalgebra_law _ g0_0 g0_1 g1_0 h0 h1 h2))
  cases h1
  exact h2

theorem own : ownKnob Try.prog.godebug = none := by kernel_rfl
set_option maxRecDepth 100000 in
theorem lifted (os : Os) (started : os.Started) (H : Type) (enc : TypeId × Value → H) :
    ReturnsInHanded {} Try.checked os 12 .any (Rows.fnExactLeastSubcoalgebraSpec.pre6 enc Try.prog Try.f12 Rows.fnExactLeastSubcoalgebraRow.domain false) (Rows.fnExactLeastSubcoalgebraSpec.post enc Try.prog Try.f12 false true false false) := by
  refine returns_true (C := Try.checked) own started (by kernel_rfl) Try.func12
    (witness_of (enc := enc) (C := Try.checked) (f := 12) (fn := Try.f12) #[.agg (noughts [(2, .i64, 2), (5, .u8, 520)]), .agg (noughts [(5, .u8, 8)])] 8 (by kernel_rfl) (by kernel_rfl) (by kernel_rfl) Try.func12 (by kernel_rfl) (by kernel_rfl) (by kernel_rfl) (by kernel_rfl)
    (fun w b j t v hj hv => by
      match j, hj, hv with
      | 0, hj, hv =>
        obtain rfl : (26 : Nat) = t := Option.some.inj hj
        obtain rfl : (.agg (noughts [(2, .i64, 2), (5, .u8, 520)]) : Value) = v := Option.some.inj hv
        exact okWide_flat (by kernel_rfl)
      | 1, hj, hv =>
        obtain rfl : (22 : Nat) = t := Option.some.inj hj
        obtain rfl : (.agg (noughts [(5, .u8, 8)]) : Value) = v := Option.some.inj hv
        exact okWide_flat (by kernel_rfl)
      | j + 2, hj, hv => simp at hv) (by kernel_rfl))
    rfl (by kernel_rfl) (by kernel_rfl) (tb := 4) rfl Try.underlying4 (fun ds h => by
      match ds, h with
      | [_, _], _ => rfl) ?_
  intro W base args ds ps hval hsz hA
  obtain ⟨v0, v1, rfl⟩ := args2 hsz
  obtain ⟨R0, rfl, e0, w0⟩ := ok_flat (flatB_of (rs := [(2, .i64, 2), (5, .u8, 520)]) (by kernel_rfl)) (hval 0 _ v0 rfl rfl)
  obtain ⟨g0_0, Q0_0, rfl, f0_0⟩ := run_cons e0
  obtain ⟨g0_1, Q0_1, rfl, f0_1⟩ := run_cons f0_0
  cases run_nil f0_1
  have w0_0 := w0 _ (List.mem_cons_self ..)
  have w0_1 := w0 _ (List.mem_cons_of_mem _ (List.mem_cons_self ..))
  obtain ⟨R1, rfl, e1, w1⟩ := ok_flat (flatB_of (rs := [(5, .u8, 8)]) (by kernel_rfl)) (hval 1 _ v1 rfl rfl)
  obtain ⟨g1_0, Q1_0, rfl, f1_0⟩ := run_cons e1
  cases run_nil f1_0
  have w1_0 := w1 _ (List.mem_cons_self ..)
  exact (FnOk.below (ys := [_, _]) (fnok g0_0 g0_1 g1_0 w0_0 w0_1 w1_0) ⟨rfl, rfl, trivial⟩).mono fun e w' ⟨γ, y, he, hv, hb⟩ => ⟨by rw [he, show y = _ from hv], hb⟩

theorem over : Rows.fnExactLeastSubcoalgebraRow.holds Try.pinned (OpenSpec.ofChange Rows.fnExactLeastSubcoalgebraSpec) :=
  OpenClaim.holds_of_wide 12 Try.f12 rfl rfl rfl rfl rfl rfl rfl ⟨rfl, rfl, rfl, rfl, rfl⟩ rfl rfl rfl rfl rfl (by kernel_rfl) Try.func12 (by kernel_rfl)
    (of_decide_eq_true (by kernel_rfl)) (by unfold Func.isWrapper; first | (rw [if_pos (by decide +kernel)]; kernel_rfl) | (rw [if_neg (by decide +kernel)]; exact ⟨rfl, rfl⟩))
    (fun os started H enc _ => lifted os started H enc)
theorem proved : Rows.FnExactLeastSubcoalgebraSaid := over
#print axioms proved
end Go.Proofs.Ythecjjnieojjoaa.fnExactLeastSubcoalgebra
namespace Go.Proofs.Ythecjjnieojjoaa
/-- The row, under a short name, for the claim. -/
theorem fnExactLeastSubcoalgebra_holds : Rows.FnExactLeastSubcoalgebraSaid := fnExactLeastSubcoalgebra.proved
end Go.Proofs.Ythecjjnieojjoaa
