/- FnExactQuaternionTable: the given row. The law returns true for all arguments. No condition. -/
import Derived.Test.YtdlhegdigcdffaaRows
import Derived.Test.YtdlhegdigcdffaaHL1
import Derived.Test.YtdlhegdigcdffaaHTb
import Derived.Test.YtdlhegdigcdffaaHyRow
namespace Go.Proofs.Ytdlhegdigcdffaa.fnExactQuaternionTable
set_option linter.unusedVariables false
set_option linter.unusedSimpArgs false
open Go Go.Proofs.Ytdlhegdigcdffaa.Hy Go.ChangeShapes Go.WideShapes Go.ChangeAt Go.RowKit
set_option linter.unusedVariables false

theorem fnok  : FnOk Try.prog 8 [] [] (.bool true) [] := by
  obtain ⟨v, sh', h1, h2⟩ := fn_ok (H.E26_ok 5000) (kp := H.laws_FnExactQuaternionTable.kp) (N := 5000) Try.func8 (c := H.laws_FnExactQuaternionTable.bd) (by kernel_rfl) ((H.laws_FnExactQuaternionTable.eq 5000 (fun v h => some (v, h)) ).trans (H.fnExactQuaternionTable_law _ ))
  cases h1
  exact h2

theorem own : ownKnob Try.prog.godebug = none := by kernel_rfl
set_option maxRecDepth 100000 in
theorem lifted (os : Os) (started : os.Started) (H : Type) (enc : TypeId × Value → H) :
    ReturnsInHanded {} Try.checked os 8 .any (Rows.fnExactQuaternionTableSpec.pre6 enc Try.prog Try.f8 Rows.fnExactQuaternionTableRow.domain false) (Rows.fnExactQuaternionTableSpec.post enc Try.prog Try.f8 false true false false) := by
  refine returns_true (C := Try.checked) own started (by kernel_rfl) Try.func8
    (witness_of (enc := enc) (C := Try.checked) (f := 8) (fn := Try.f8) #[] 8 (by kernel_rfl) (by kernel_rfl) (by kernel_rfl) Try.func8 (by kernel_rfl) (by kernel_rfl) (by kernel_rfl) (by kernel_rfl)
    (fun w b j t v hj hv => by
      match j, hj, hv with
      | j, hj, hv => simp at hv) (by kernel_rfl))
    rfl (by kernel_rfl) (by kernel_rfl) (tb := 4) rfl Try.underlying4 (fun ds h => by
      match ds, h with
      | [], _ => rfl) ?_
  intro W base args ds ps hval hsz hA
  cases args0 hsz
  exact (FnOk.below (ys := []) (fnok ) trivial).mono fun e w' ⟨γ, y, he, hv, hb⟩ => ⟨by rw [he, show y = _ from hv], hb⟩

theorem over : Rows.fnExactQuaternionTableRow.holds Try.pinned (OpenSpec.ofChange Rows.fnExactQuaternionTableSpec) :=
  OpenClaim.holds_of_wide 8 Try.f8 rfl rfl rfl rfl rfl rfl rfl ⟨rfl, rfl, rfl, rfl, rfl⟩ rfl rfl rfl rfl rfl (by kernel_rfl) Try.func8 (by kernel_rfl)
    (of_decide_eq_true (by kernel_rfl)) (by unfold Func.isWrapper; first | (rw [if_pos (by decide +kernel)]; kernel_rfl) | (rw [if_neg (by decide +kernel)]; exact ⟨rfl, rfl⟩))
    (fun os started H enc _ => lifted os started H enc)
theorem proved : Rows.FnExactQuaternionTableSaid := over
#print axioms proved
end Go.Proofs.Ytdlhegdigcdffaa.fnExactQuaternionTable
namespace Go.Proofs.Ytdlhegdigcdffaa
/-- The row, under a short name, for the claim. -/
theorem fnExactQuaternionTable_holds : Rows.FnExactQuaternionTableSaid := fnExactQuaternionTable.proved
end Go.Proofs.Ytdlhegdigcdffaa
