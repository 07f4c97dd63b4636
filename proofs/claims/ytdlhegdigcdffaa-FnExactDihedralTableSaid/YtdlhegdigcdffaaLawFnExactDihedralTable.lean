/- FnExactDihedralTable: the given row. The law returns true for all arguments. No condition. -/
import Derived.Test.YtdlhegdigcdffaaRows
import Derived.Test.YtdlhegdigcdffaaHL1
import Derived.Test.YtdlhegdigcdffaaHTb
import Derived.Test.YtdlhegdigcdffaaHyRow
namespace Go.Proofs.Ytdlhegdigcdffaa.fnExactDihedralTable
set_option linter.unusedVariables false
set_option linter.unusedSimpArgs false
open Go Go.Proofs.Ytdlhegdigcdffaa.Hy Go.ChangeShapes Go.WideShapes Go.ChangeAt Go.RowKit
set_option linter.unusedVariables false

theorem fnok (a0 : Int) (h0 : IntKind.i64.has a0) : FnOk Try.prog 7 [.int .i64 a0] [] (.bool true) [] := by
  obtain ⟨v, sh', h1, h2⟩ := fn_ok (H.E22_ok 5000) (kp := H.laws_FnExactDihedralTable.kp) (N := 5000) Try.func7 (c := H.laws_FnExactDihedralTable.bd) (by kernel_rfl) ((H.laws_FnExactDihedralTable.eq 5000 (fun v h => some (v, h)) a0).trans (H.fnExactDihedralTable_law _ a0 h0))
  cases h1
  exact h2

theorem own : ownKnob Try.prog.godebug = none := by kernel_rfl
set_option maxRecDepth 100000 in
theorem lifted (os : Os) (started : os.Started) (H : Type) (enc : TypeId × Value → H) :
    ReturnsInHanded {} Try.checked os 7 .any (Rows.fnExactDihedralTableSpec.pre6 enc Try.prog Try.f7 Rows.fnExactDihedralTableRow.domain false) (Rows.fnExactDihedralTableSpec.post enc Try.prog Try.f7 false true false false) := by
  refine returns_true (C := Try.checked) own started (by kernel_rfl) Try.func7
    (witness_of (enc := enc) (C := Try.checked) (f := 7) (fn := Try.f7) #[.int .i64 0] 8 (by kernel_rfl) (by kernel_rfl) (by kernel_rfl) Try.func7 (by kernel_rfl) (by kernel_rfl) (by kernel_rfl) (by kernel_rfl)
    (fun w b j t v hj hv => by
      match j, hj, hv with
      | 0, hj, hv =>
        obtain rfl : (2 : Nat) = t := Option.some.inj hj
        obtain rfl : (.int .i64 0 : Value) = v := Option.some.inj hv
        exact okWide_int Try.underlying2
      | j + 1, hj, hv => simp at hv) (by kernel_rfl))
    rfl (by kernel_rfl) (by kernel_rfl) (tb := 4) rfl Try.underlying4 (fun ds h => by
      match ds, h with
      | [_], _ => rfl) ?_
  intro W base args ds ps hval hsz hA
  obtain ⟨v0, rfl⟩ := args1 hsz
  obtain ⟨a0, rfl, w0⟩ := ok_int Try.underlying2 (hval 0 2 v0 rfl rfl)
  exact (FnOk.below (ys := [_]) (fnok a0 w0) ⟨rfl, trivial⟩).mono fun e w' ⟨γ, y, he, hv, hb⟩ => ⟨by rw [he, show y = _ from hv], hb⟩

theorem over : Rows.fnExactDihedralTableRow.holds Try.pinned (OpenSpec.ofChange Rows.fnExactDihedralTableSpec) :=
  OpenClaim.holds_of_wide 7 Try.f7 rfl rfl rfl rfl rfl rfl rfl ⟨rfl, rfl, rfl, rfl, rfl⟩ rfl rfl rfl rfl rfl (by kernel_rfl) Try.func7 (by kernel_rfl)
    (of_decide_eq_true (by kernel_rfl)) (by unfold Func.isWrapper; first | (rw [if_pos (by decide +kernel)]; kernel_rfl) | (rw [if_neg (by decide +kernel)]; exact ⟨rfl, rfl⟩))
    (fun os started H enc _ => lifted os started H enc)
theorem proved : Rows.FnExactDihedralTableSaid := over
#print axioms proved
end Go.Proofs.Ytdlhegdigcdffaa.fnExactDihedralTable
namespace Go.Proofs.Ytdlhegdigcdffaa
/-- The row, under a short name, for the claim. -/
theorem fnExactDihedralTable_holds : Rows.FnExactDihedralTableSaid := fnExactDihedralTable.proved
end Go.Proofs.Ytdlhegdigcdffaa
