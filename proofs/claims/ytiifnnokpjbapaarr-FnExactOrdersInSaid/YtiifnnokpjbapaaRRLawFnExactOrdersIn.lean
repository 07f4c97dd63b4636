/- FnExactOrdersIn: the given row. The law returns true for all arguments. No condition. -/
import Derived.Test.YtiifnnokpjbapaaRRRows
import Derived.Test.YtiifnnokpjbapaaRRHL3
import Derived.Test.YtiifnnokpjbapaaRRHTO1
import Derived.Test.YtiifnnokpjbapaaRRHyArg
namespace Go.Proofs.YtiifnnokpjbapaaRR.fnExactOrdersIn
set_option linter.unusedVariables false
set_option linter.unusedSimpArgs false
open Go Go.Proofs.YtiifnnokpjbapaaRR.Hy Go.ChangeShapes Go.WideShapes Go.ChangeAt Go.RowKit
set_option linter.unusedVariables false

theorem fnok (m0 : Nat) (bn0 : Nat) (bq0 : Nat) (of0 : Nat → Nat) (ln0 : Nat → Nat) (bw0 : Nat) (g0 : Nat → Int) (h0 : m0 ≤ maxLen) (h1 : ∀ i, ln0 i ≤ maxLen) (h2 : ∀ z, IntKind.i64.has (g0 z)) : FnOk Try.prog 5 [.slice false 0 0 m0 .unk 1] [⟨false, .hdr 1 bn0 bq0 of0 ln0 none⟩, ⟨false, .flat bw0 (.ints .i64 g0)⟩] (.bool true) [⟨false, .hdr 1 bn0 bq0 of0 ln0 none⟩, ⟨false, .flat bw0 (.ints .i64 g0)⟩] := by
  obtain ⟨v, sh', h1, h2⟩ := fn_ok (H.E24_ok 3000000) (kp := H.laws_FnExactOrdersIn_suh.kp) (N := 3000000) Try.func5 (c := H.laws_FnExactOrdersIn_suh.bd) (by kernel_rfl) ((H.laws_FnExactOrdersIn_suh.eq 3000000 (fun v h => some (v, h)) m0 bn0 bq0 of0 ln0 bw0 g0).trans (H.fnExactOrdersIn_law _ m0 bn0 bq0 of0 ln0 bw0 g0 h0 h1 h2))
  cases h1
  exact h2

theorem own : ownKnob Try.prog.godebug = none := by kernel_rfl
set_option maxRecDepth 100000 in
theorem lifted (os : Os) (started : os.Started) (H : Type) (enc : TypeId × Value → H) :
    ReturnsInHanded {} Try.checked os 5 .any (Rows.fnExactOrdersInSpec.pre6 enc Try.prog Try.f5 Rows.fnExactOrdersInRow.domain false) (Rows.fnExactOrdersInSpec.post enc Try.prog Try.f5 false true false false) := by
  refine returns_true (C := Try.checked) own started (by kernel_rfl) Try.func5
    (witness_of (enc := enc) (C := Try.checked) (f := 5) (fn := Try.f5) #[.slice none 0 0] 8 (by kernel_rfl) (by kernel_rfl) (by kernel_rfl) Try.func5 (by kernel_rfl) (by kernel_rfl) (by kernel_rfl) (by kernel_rfl)
    (fun w b j t v hj hv => by
      match j, hj, hv with
      | 0, hj, hv =>
        obtain rfl : (22 : Nat) = t := Option.some.inj hj
        obtain rfl : (.slice none 0 0 : Value) = v := Option.some.inj hv
        exact okWide_nil Try.underlying22
      | j + 1, hj, hv => simp at hv) (by kernel_rfl))
    rfl (by kernel_rfl) (by kernel_rfl) (tb := 4) rfl Try.underlying4 (fun ds h => by
      match ds, h with
      | [_], _ => rfl) ?_
  intro W base args ds ps hval hsz hA
  obtain ⟨v0, rfl⟩ := args1 hsz
  obtain ⟨d0, q0, h0⟩ := trodAll_at (i := 0) (t := 22) (v := v0) hA rfl rfl
  obtain ⟨m0, of0, ln0, g0, L0, M0, hm0, hln0, hg0, hM0, hL0, hs0⟩ := arg_table (k := .i64) Try.underlying22 Try.underlying29 (by kernel_rfl) (by kernel_rfl) (hval 0 22 v0 rfl rfl) h0 (fun _ => rfl)

  have hr : HRel (fun i => ([L0, M0] : List Hy.Loc)[i]?) [⟨false, .hdr 1 0 (m0 * RS) of0 ln0 none⟩, ⟨false, .flat 0 (.ints .i64 g0)⟩] W := hrel_ro rfl rfl (fun b x hb => by
    match b, hb with
    | 0, hb =>
      obtain rfl := Option.some.inj hb
      exact ⟨_, rfl, hL0 _ 1 _ rfl⟩
    | 1, hb =>
      obtain rfl := Option.some.inj hb
      exact ⟨_, rfl, hM0 _ _⟩
    | b + 2, hb => simp at hb)
  exact (FnOk.below' (ys := [_]) (fnok m0 0 (m0 * RS) of0 ln0 0 g0 hm0 hln0 hg0) rfl hr ⟨hs0 _ 0 rfl, trivial⟩).mono fun e w' ⟨γ, y, he, hv, hb⟩ => ⟨by rw [he, show y = _ from hv], hb⟩

theorem over : Rows.fnExactOrdersInRow.holds Try.pinned (OpenSpec.ofChange Rows.fnExactOrdersInSpec) :=
  OpenClaim.holds_of_wide 5 Try.f5 rfl rfl rfl rfl rfl rfl rfl ⟨rfl, rfl, rfl, rfl, rfl⟩ rfl rfl rfl rfl rfl (by kernel_rfl) Try.func5 (by kernel_rfl)
    (of_decide_eq_true (by kernel_rfl)) (by unfold Func.isWrapper; first | (rw [if_pos (by decide +kernel)]; kernel_rfl) | (rw [if_neg (by decide +kernel)]; exact ⟨rfl, rfl⟩))
    (fun os started H enc _ => lifted os started H enc)
theorem proved : Rows.FnExactOrdersInSaid := over
#print axioms proved
end Go.Proofs.YtiifnnokpjbapaaRR.fnExactOrdersIn
namespace Go.Proofs.YtiifnnokpjbapaaRR
/-- The row, under a short name, for the claim. -/
theorem fnExactOrdersIn_holds : Rows.FnExactOrdersInSaid := fnExactOrdersIn.proved
end Go.Proofs.YtiifnnokpjbapaaRR
