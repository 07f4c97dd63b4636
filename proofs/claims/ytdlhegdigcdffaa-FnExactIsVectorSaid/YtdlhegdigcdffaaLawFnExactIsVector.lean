/- IsVector: the given row. The law returns true for every prime, size and vector. No condition. -/
import Derived.Test.YtdlhegdigcdffaaRows
import Derived.Test.YtdlhegdigcdffaaHL
import Derived.Test.YtdlhegdigcdffaaHV
import Derived.Test.YtdlhegdigcdffaaHxRow
namespace Go.Proofs.Ytdlhegdigcdffaa.fnExactIsVector
set_option linter.unusedVariables false
set_option linter.unusedSimpArgs false
open Go Go.Proofs.Ytdlhegdigcdffaa.Hx Go.ChangeShapes Go.WideShapes Go.ChangeAt Go.RowKit
set_option linter.unusedVariables false

theorem told (a0 a1 : Int) (a2 : Nat → Int) : H.laws_FnExactIsVector.en 1000 (AV × Heap) [.int .i64 a0, .int .i64 a1, .agg [⟨.u8, 8, a2⟩]] [] (fun v h => some (v, h)) = H.laws_FnExactIsVector 1000 (fun d => some (.bool d, [])) a0 a1 a2 := by kernel_rfl
theorem fnok (a0 a1 : Int) (a2 : Nat → Int) : FnOk Try.prog 5 [.int .i64 a0, .int .i64 a1, .agg [⟨.u8, 8, a2⟩]] [] (.bool true) [] := by
  obtain ⟨v, sh', h1, h2⟩ := H.laws_FnExactIsVector.en_ok 1000 (H.E9_ok 1000) _ _ _ _ _ ((told a0 a1 a2).trans (H.isVector_law _ a0 a1 a2))
  cases h1
  exact h2

theorem own : ownKnob Try.prog.godebug = none := by kernel_rfl
set_option maxRecDepth 100000 in
theorem lifted (os : Os) (started : os.Started) (H : Type) (enc : TypeId × Value → H) :
    ReturnsInHanded {} Try.checked os 5 .any (Rows.fnExactIsVectorSpec.pre6 enc Try.prog Try.f5 Rows.fnExactIsVectorRow.domain false) (Rows.fnExactIsVectorSpec.post enc Try.prog Try.f5 false true false false) := by
  refine returns_true (C := Try.checked) own started (by kernel_rfl) Try.func5
    (ChangeSpec.witness6 (enc := enc) (C := Try.checked) false ⟨#[], #[.int .i64 0, .int .i64 0, .agg (Array.replicate 8 (.int .u8 0))], []⟩ 8 (by kernel_rfl) (by kernel_rfl) (by kernel_rfl) (by kernel_rfl))
    rfl (by kernel_rfl) (by kernel_rfl) (tb := 4) rfl Try.underlying4 (fun ds h => by
      match ds, h with
      | [_, _, _], _ => rfl) ?_
  intro W base args ds ps hval hsz hA
  obtain ⟨v0, v1, v2, rfl⟩ := args3 hsz
  obtain ⟨a0, rfl, w0⟩ := ok_int Try.underlying2 (hval 0 2 v0 rfl rfl)
  obtain ⟨a1, rfl, w1⟩ := ok_int Try.underlying2 (hval 1 2 v1 rfl rfl)
  obtain ⟨R2, rfl, e2, w2⟩ := ok_flat (rs := [(.u8, 8)]) (by kernel_rfl) (hval 2 _ v2 rfl rfl)
  obtain ⟨g20, Q2, rfl, f2⟩ := run_cons e2
  cases run_nil f2
  exact (FnOk.below (ys := [_, _, _]) (fnok a0 a1 g20) ⟨rfl, rfl, rfl, trivial⟩).mono fun e w' ⟨γ, y, he, hv, hb⟩ => ⟨by rw [he, show y = _ from hv], hb⟩

theorem over : Rows.fnExactIsVectorRow.holds Try.pinned (OpenSpec.ofChange Rows.fnExactIsVectorSpec) :=
  OpenClaim.holds_of_wide 5 Try.f5 rfl rfl rfl rfl rfl rfl rfl ⟨rfl, rfl, rfl, rfl, rfl⟩ rfl rfl rfl rfl rfl (by kernel_rfl) Try.func5 (by kernel_rfl)
    (of_decide_eq_true (by kernel_rfl)) (by unfold Func.isWrapper; first | (rw [if_pos (by decide +kernel)]; kernel_rfl) | (rw [if_neg (by decide +kernel)]; exact ⟨rfl, rfl⟩))
    (fun os started H enc _ => lifted os started H enc)
theorem proved : Rows.FnExactIsVectorSaid := over
#print axioms proved
end Go.Proofs.Ytdlhegdigcdffaa.fnExactIsVector
namespace Go.Proofs.Ytdlhegdigcdffaa
/-- The row, under a short name, for the claim. -/
theorem fnExactIsVector_holds : Rows.FnExactIsVectorSaid := fnExactIsVector.proved
end Go.Proofs.Ytdlhegdigcdffaa
