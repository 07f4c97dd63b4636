import Derived.Test.YtiifnnokpjbapaaRRRows
import Derived.Test.YtiifnnokpjbapaaRRHL4
import Derived.Test.YtiifnnokpjbapaaRRHZ
import Derived.Test.YtiifnnokpjbapaaRRHyArg
namespace Go.Proofs.YtiifnnokpjbapaaRR.fnGroupTables
set_option linter.unusedVariables false
set_option linter.unusedSimpArgs false
open Go Go.Proofs.YtiifnnokpjbapaaRR.Hy Go.ChangeShapes Go.WideShapes Go.ChangeAt Go.RowKit
theorem fnok (m0 : Nat) (bn0 : Nat) (g0 : Nat → Int) (h0 : m0 ≤ maxLen) (h1 : ∀ z, IntKind.u8.has (g0 z)) : FnOk Try.prog 7 [.slice false 0 0 m0 .unk 1] [⟨false, .flat bn0 (.ints .u8 g0)⟩] (.bool true) [⟨false, .flat bn0 (.ints .u8 g0)⟩] := by
  obtain ⟨v, sh', h1, h2⟩ := fn_ok (H.E49_ok 5000) (kp := H.laws_FnGroupTables_su.kp) (N := 5000) Try.func7 (c := H.laws_FnGroupTables_su.bd) (by kernel_rfl) ((H.laws_FnGroupTables_su.eq 5000 (fun v h => some (v, h)) m0 bn0 g0).trans (H.fnGroupTables_law _ m0 bn0 g0 h0 h1))
  cases h1
  exact h2
theorem own : ownKnob Try.prog.godebug = none := by kernel_rfl
set_option maxRecDepth 100000 in
theorem lifted (os : Os) (started : os.Started) (H : Type) (enc : TypeId × Value → H) :
    ReturnsInHanded {} Try.checked os 7 .any (Rows.fnGroupTablesSpec.pre6 enc Try.prog Try.f7 Rows.fnGroupTablesRow.domain false) (Rows.fnGroupTablesSpec.post enc Try.prog Try.f7 false true false false) := by
  refine returns_true (C := Try.checked) own started (by kernel_rfl) Try.func7
    (witness_of (enc := enc) (C := Try.checked) (f := 7) (fn := Try.f7) #[.slice none 0 0] 8 (by kernel_rfl) (by kernel_rfl) (by kernel_rfl) Try.func7 (by kernel_rfl) (by kernel_rfl) (by kernel_rfl) (by kernel_rfl)
    (fun w b j t v hj hv => by
      match j, hj, hv with
      | 0, hj, hv =>
        obtain rfl : (36 : Nat) = t := Option.some.inj hj
        obtain rfl : (.slice none 0 0 : Value) = v := Option.some.inj hv
        exact okWide_nil Try.underlying36
      | j + 1, hj, hv => simp at hv) (by kernel_rfl))
    rfl (by kernel_rfl) (by kernel_rfl) (tb := 4) rfl Try.underlying4 (fun ds h => by
      match ds, h with
      | [_], _ => rfl) ?_
  intro W base args ds ps hval hsz hA
  obtain ⟨v0, rfl⟩ := args1 hsz
  obtain ⟨d0, q0, h0⟩ := trodAll_at (i := 0) (t := 36) (v := v0) hA rfl rfl
  obtain ⟨m0, g0, L0, hm0, hg0, hL0, hs0⟩ := arg_flat (k := .u8) (n := 1) Try.underlying36 (by kernel_rfl) (by decide) (hval 0 36 v0 rfl rfl) h0
  have hr : HRel (fun i => ([L0] : List Hy.Loc)[i]?) [⟨false, .flat 0 (.ints .u8 g0)⟩] W := hrel_ro rfl rfl (fun b x hb => by
    match b, hb with
    | 0, hb =>
      obtain rfl := Option.some.inj hb
      exact ⟨_, rfl, hL0 _ _⟩
    | b + 1, hb => simp at hb)
  exact (FnOk.below' (ys := [_]) (fnok m0 0 g0 hm0 hg0) rfl hr ⟨hs0 _ 0 rfl, trivial⟩).mono fun e w' ⟨γ, y, he, hv, hb⟩ => ⟨by rw [he, show y = _ from hv], hb⟩
theorem over : Rows.fnGroupTablesRow.holds Try.pinned (OpenSpec.ofChange Rows.fnGroupTablesSpec) :=
  OpenClaim.holds_of_wide 7 Try.f7 rfl rfl rfl rfl rfl rfl rfl ⟨rfl, rfl, rfl, rfl, rfl⟩ rfl rfl rfl rfl rfl (by kernel_rfl) Try.func7 (by kernel_rfl)
    (of_decide_eq_true (by kernel_rfl)) (by unfold Func.isWrapper; first | (rw [if_pos (by decide +kernel)]; kernel_rfl) | (rw [if_neg (by decide +kernel)]; exact ⟨rfl, rfl⟩))
    (fun os started H enc _ => lifted os started H enc)
theorem proved : Rows.FnGroupTablesSaid := over
#print axioms proved
end Go.Proofs.YtiifnnokpjbapaaRR.fnGroupTables
namespace Go.Proofs.YtiifnnokpjbapaaRR
theorem fnGroupTables_holds : Rows.FnGroupTablesSaid := fnGroupTables.proved
end Go.Proofs.YtiifnnokpjbapaaRR
