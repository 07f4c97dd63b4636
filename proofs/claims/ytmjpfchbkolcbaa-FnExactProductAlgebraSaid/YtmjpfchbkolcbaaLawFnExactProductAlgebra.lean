/- FnExactProductAlgebra: the given row. The law returns true for all arguments. No condition. -/
import Derived.Test.YtmjpfchbkolcbaaRows
import Derived.Test.YtmjpfchbkolcbaaHL4
import Derived.Test.YtmjpfchbkolcbaaHV7c
import Derived.Test.YtmjpfchbkolcbaaHxRow
namespace Go.Proofs.Ytmjpfchbkolcbaa.fnExactProductAlgebra
set_option linter.unusedVariables false
set_option linter.unusedSimpArgs false
open Go Go.Proofs.Ytmjpfchbkolcbaa.Hx Go.ChangeShapes Go.WideShapes Go.ChangeAt Go.RowKit
set_option linter.unusedVariables false

theorem fnok (g0_0 : Nat → Int) (g0_1 : Nat → Int) (g1_0 : Nat → Int) (g1_1 : Nat → Int) (h0 : ∀ i, IntKind.i64.has (g0_0 i)) (h1 : ∀ i, IntKind.u8.has (g0_1 i)) (h2 : ∀ i, IntKind.i64.has (g1_0 i)) (h3 : ∀ i, IntKind.u8.has (g1_1 i)) : FnOk Try.prog 12 [.agg [⟨.i64, 2, g0_0⟩, ⟨.u8, 520, g0_1⟩], .agg [⟨.i64, 2, g1_0⟩, ⟨.u8, 520, g1_1⟩]] [] (.bool true) [] := by
  obtain ⟨v, sh', h1, h2⟩ := fn_ok (H.E85_ok 1000) (kp := H.laws_FnExactProductAlgebra.kp) (N := 1000) Try.func12 (c := H.laws_FnExactProductAlgebra.bd) (by kernel_rfl) ((H.laws_FnExactProductAlgebra.eq 1000 (fun v h => some (v, h)) g0_0 g0_1 g1_0 g1_1).trans (H.fnExactProductAlgebra_law _ g0_0 g0_1 g1_0 g1_1 h0 h1 h2 h3))
  cases h1
  exact h2

theorem own : ownKnob Try.prog.godebug = none := by kernel_rfl
set_option maxRecDepth 100000 in
theorem lifted (os : Os) (started : os.Started) (H : Type) (enc : TypeId × Value → H) :
    ReturnsInHanded {} Try.checked os 12 .any (Rows.fnExactProductAlgebraSpec.pre6 enc Try.prog Try.f12 Rows.fnExactProductAlgebraRow.domain false) (Rows.fnExactProductAlgebraSpec.post enc Try.prog Try.f12 false true false false) := by
  refine returns_true (C := Try.checked) own started (by kernel_rfl) Try.func12
    (ChangeSpec.witness6 (enc := enc) (C := Try.checked) false ⟨#[], #[.agg (Array.replicate 2 (.int .i64 0) ++ Array.replicate 520 (.int .u8 0)), .agg (Array.replicate 2 (.int .i64 0) ++ Array.replicate 520 (.int .u8 0))], []⟩ 8 (by kernel_rfl) (by kernel_rfl) (by kernel_rfl) (by kernel_rfl))
    rfl (by kernel_rfl) (by kernel_rfl) (tb := 4) rfl Try.underlying4 (fun ds h => by
      match ds, h with
      | [_, _], _ => rfl) ?_
  intro W base args ds ps hval hsz hA
  obtain ⟨v0, v1, rfl⟩ := args2 hsz
  obtain ⟨R0, rfl, e0, w0⟩ := ok_flat (flatB_of (rs := [(2, .i64, 2), (5, .u8, 520)]) (by kernel_rfl)) (hval 0 _ v0 rfl rfl)
  obtain ⟨g0_0, Q0_0, rfl, f0_0⟩ := run_cons e0
  obtain ⟨g0_1, Q0_1, rfl, f0_1⟩ := run_cons f0_0
  cases run_nil f0_1
  have w0_0 := w0 _ (List.mem_cons_self ..)
  have w0_1 := w0 _ (List.mem_cons_of_mem _ (List.mem_cons_self ..))
  obtain ⟨R1, rfl, e1, w1⟩ := ok_flat (flatB_of (rs := [(2, .i64, 2), (5, .u8, 520)]) (by kernel_rfl)) (hval 1 _ v1 rfl rfl)
  obtain ⟨g1_0, Q1_0, rfl, f1_0⟩ := run_cons e1
  obtain ⟨g1_1, Q1_1, rfl, f1_1⟩ := run_cons f1_0
  cases run_nil f1_1
  have w1_0 := w1 _ (List.mem_cons_self ..)
  have w1_1 := w1 _ (List.mem_cons_of_mem _ (List.mem_cons_self ..))
  exact (FnOk.below (ys := [_, _]) (fnok g0_0 g0_1 g1_0 g1_1 w0_0 w0_1 w1_0 w1_1) ⟨rfl, rfl, trivial⟩).mono fun e w' ⟨γ, y, he, hv, hb⟩ => ⟨by rw [he, show y = _ from hv], hb⟩

theorem over : Rows.fnExactProductAlgebraRow.holds Try.pinned (OpenSpec.ofChange Rows.fnExactProductAlgebraSpec) :=
  OpenClaim.holds_of_wide 12 Try.f12 rfl rfl rfl rfl rfl rfl rfl ⟨rfl, rfl, rfl, rfl, rfl⟩ rfl rfl rfl rfl rfl (by kernel_rfl) Try.func12 (by kernel_rfl)
    (of_decide_eq_true (by kernel_rfl)) (by unfold Func.isWrapper; first | (rw [if_pos (by decide +kernel)]; kernel_rfl) | (rw [if_neg (by decide +kernel)]; exact ⟨rfl, rfl⟩))
    (fun os started H enc _ => lifted os started H enc)
theorem proved : Rows.FnExactProductAlgebraSaid := over
#print axioms proved
end Go.Proofs.Ytmjpfchbkolcbaa.fnExactProductAlgebra
namespace Go.Proofs.Ytmjpfchbkolcbaa
/-- The row, under a short name, for the claim. -/
theorem fnExactProductAlgebra_holds : Rows.FnExactProductAlgebraSaid := fnExactProductAlgebra.proved
end Go.Proofs.Ytmjpfchbkolcbaa
