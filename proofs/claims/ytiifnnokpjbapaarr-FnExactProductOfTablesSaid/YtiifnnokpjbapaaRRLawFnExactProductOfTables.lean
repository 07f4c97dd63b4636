/- FnExactProductOfTables: the given row. The law returns true for all arguments. No condition. -/
import Derived.Test.YtiifnnokpjbapaaRRRows
import Derived.Test.YtiifnnokpjbapaaRRHL4
import Derived.Test.YtiifnnokpjbapaaRRHZ
import Derived.Test.YtiifnnokpjbapaaRRHyArg
namespace Go.Proofs.YtiifnnokpjbapaaRR.fnExactProductOfTables
set_option linter.unusedVariables false
set_option linter.unusedSimpArgs false
open Go Go.Proofs.YtiifnnokpjbapaaRR.Hy Go.ChangeShapes Go.WideShapes Go.ChangeAt Go.RowKit
set_option linter.unusedVariables false

theorem fnok (m0 : Nat) (m1 : Nat) (bn0 : Nat) (bq0 : Nat) (of0 : Nat → Nat) (ln0 : Nat → Nat) (bw0 : Nat) (g0 : Nat → Int) (bn1 : Nat) (bq1 : Nat) (of1 : Nat → Nat) (ln1 : Nat → Nat) (bw1 : Nat) (g1 : Nat → Int) (h0 : m0 ≤ maxLen) (h1 : ∀ i, ln0 i ≤ maxLen) (h2 : ∀ z, IntKind.i64.has (g0 z)) (h3 : m1 ≤ maxLen) (h4 : ∀ i, ln1 i ≤ maxLen) (h5 : ∀ z, IntKind.i64.has (g1 z)) : FnOk Try.prog 6 [.slice false 0 0 m0 .unk 1, .slice false 2 0 m1 .unk 1] [⟨false, .hdr 1 bn0 bq0 of0 ln0 none⟩, ⟨false, .flat bw0 (.ints .i64 g0)⟩, ⟨false, .hdr 3 bn1 bq1 of1 ln1 none⟩, ⟨false, .flat bw1 (.ints .i64 g1)⟩] (.bool true) [⟨false, .hdr 1 bn0 bq0 of0 ln0 none⟩, ⟨false, .flat bw0 (.ints .i64 g0)⟩, ⟨false, .hdr 3 bn1 bq1 of1 ln1 none⟩, ⟨false, .flat bw1 (.ints .i64 g1)⟩] := by
  obtain ⟨v, sh', h1, h2⟩ := fn_ok (H.E31_ok 3000000) (kp := H.laws_FnExactProductOfTables_suhsuh.kp) (N := 3000000) Try.func6 (c := H.laws_FnExactProductOfTables_suhsuh.bd) (by kernel_rfl) ((H.laws_FnExactProductOfTables_suhsuh.eq 3000000 (fun v h => some (v, h)) m0 m1 bn0 bq0 of0 ln0 bw0 g0 bn1 bq1 of1 ln1 bw1 g1).trans (H.fnExactProductOfTables_law _ m0 m1 bn0 bq0 of0 ln0 bw0 g0 bn1 bq1 of1 ln1 bw1 g1 h0 h1 h2 h3 h4 h5))
  cases h1
  exact h2

theorem own : ownKnob Try.prog.godebug = none := by kernel_rfl
set_option maxRecDepth 100000 in
theorem lifted (os : Os) (started : os.Started) (H : Type) (enc : TypeId × Value → H) :
    ReturnsInHanded {} Try.checked os 6 .any (Rows.fnExactProductOfTablesSpec.pre6 enc Try.prog Try.f6 Rows.fnExactProductOfTablesRow.domain false) (Rows.fnExactProductOfTablesSpec.post enc Try.prog Try.f6 false true false false) := by
  refine returns_true (C := Try.checked) own started (by kernel_rfl) Try.func6
    (witness_of (enc := enc) (C := Try.checked) (f := 6) (fn := Try.f6) #[.slice none 0 0, .slice none 0 0] 8 (by kernel_rfl) (by kernel_rfl) (by kernel_rfl) Try.func6 (by kernel_rfl) (by kernel_rfl) (by kernel_rfl) (by kernel_rfl)
    (fun w b j t v hj hv => by
      match j, hj, hv with
      | 0, hj, hv =>
        obtain rfl : (22 : Nat) = t := Option.some.inj hj
        obtain rfl : (.slice none 0 0 : Value) = v := Option.some.inj hv
        exact okWide_nil Try.underlying22
      | 1, hj, hv =>
        obtain rfl : (22 : Nat) = t := Option.some.inj hj
        obtain rfl : (.slice none 0 0 : Value) = v := Option.some.inj hv
        exact okWide_nil Try.underlying22
      | j + 2, hj, hv => simp at hv) (by kernel_rfl))
    rfl (by kernel_rfl) (by kernel_rfl) (tb := 4) rfl Try.underlying4 (fun ds h => by
      match ds, h with
      | [_, _], _ => rfl) ?_
  intro W base args ds ps hval hsz hA
  obtain ⟨v0, v1, rfl⟩ := args2 hsz
  obtain ⟨d0, q0, h0⟩ := trodAll_at (i := 0) (t := 22) (v := v0) hA rfl rfl
  obtain ⟨m0, of0, ln0, g0, L0, M0, hm0, hln0, hg0, hM0, hL0, hs0⟩ := arg_table (k := .i64) Try.underlying22 Try.underlying29 (by kernel_rfl) (by kernel_rfl) (hval 0 22 v0 rfl rfl) h0 (fun _ => rfl)

  obtain ⟨d1, q1, h1⟩ := trodAll_at (i := 1) (t := 22) (v := v1) hA rfl rfl
  obtain ⟨m1, of1, ln1, g1, L1, M1, hm1, hln1, hg1, hM1, hL1, hs1⟩ := arg_table (k := .i64) Try.underlying22 Try.underlying29 (by kernel_rfl) (by kernel_rfl) (hval 1 22 v1 rfl rfl) h1 (fun _ => rfl)

  have hr : HRel (fun i => ([L0, M0, L1, M1] : List Hy.Loc)[i]?) [⟨false, .hdr 1 0 (m0 * RS) of0 ln0 none⟩, ⟨false, .flat 0 (.ints .i64 g0)⟩, ⟨false, .hdr 3 0 (m1 * RS) of1 ln1 none⟩, ⟨false, .flat 0 (.ints .i64 g1)⟩] W := hrel_ro rfl rfl (fun b x hb => by
    match b, hb with
    | 0, hb =>
      obtain rfl := Option.some.inj hb
      exact ⟨_, rfl, hL0 _ 1 _ rfl⟩
    | 1, hb =>
      obtain rfl := Option.some.inj hb
      exact ⟨_, rfl, hM0 _ _⟩
    | 2, hb =>
      obtain rfl := Option.some.inj hb
      exact ⟨_, rfl, hL1 _ 3 _ rfl⟩
    | 3, hb =>
      obtain rfl := Option.some.inj hb
      exact ⟨_, rfl, hM1 _ _⟩
    | b + 4, hb => simp at hb)
  exact (FnOk.below' (ys := [_, _]) (fnok m0 m1 0 (m0 * RS) of0 ln0 0 g0 0 (m1 * RS) of1 ln1 0 g1 hm0 hln0 hg0 hm1 hln1 hg1) rfl hr ⟨hs0 _ 0 rfl, hs1 _ 2 rfl, trivial⟩).mono fun e w' ⟨γ, y, he, hv, hb⟩ => ⟨by rw [he, show y = _ from hv], hb⟩

theorem over : Rows.fnExactProductOfTablesRow.holds Try.pinned (OpenSpec.ofChange Rows.fnExactProductOfTablesSpec) :=
  OpenClaim.holds_of_wide 6 Try.f6 rfl rfl rfl rfl rfl rfl rfl ⟨rfl, rfl, rfl, rfl, rfl⟩ rfl rfl rfl rfl rfl (by kernel_rfl) Try.func6 (by kernel_rfl)
    (of_decide_eq_true (by kernel_rfl)) (by unfold Func.isWrapper; first | (rw [if_pos (by decide +kernel)]; kernel_rfl) | (rw [if_neg (by decide +kernel)]; exact ⟨rfl, rfl⟩))
    (fun os started H enc _ => lifted os started H enc)
theorem proved : Rows.FnExactProductOfTablesSaid := over
#print axioms proved
end Go.Proofs.YtiifnnokpjbapaaRR.fnExactProductOfTables
namespace Go.Proofs.YtiifnnokpjbapaaRR
/-- The row, under a short name, for the claim. -/
theorem fnExactProductOfTables_holds : Rows.FnExactProductOfTablesSaid := fnExactProductOfTables.proved
end Go.Proofs.YtiifnnokpjbapaaRR
