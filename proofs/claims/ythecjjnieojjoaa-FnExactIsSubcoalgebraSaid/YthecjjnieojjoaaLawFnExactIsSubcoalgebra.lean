/- FnExactIsSubcoalgebra: the given row. The law returns true for all arguments. No condition. -/
import Derived.Test.YthecjjnieojjoaaRows
import Derived.Test.YthecjjnieojjoaaHL4
import Derived.Test.YthecjjnieojjoaaHZ
import Derived.Test.YthecjjnieojjoaaHyArg
namespace Go.Proofs.Ythecjjnieojjoaa.fnExactIsSubcoalgebra
set_option linter.unusedVariables false
set_option linter.unusedSimpArgs false
open Go Go.Proofs.Ythecjjnieojjoaa.Hy Go.ChangeShapes Go.WideShapes Go.ChangeAt Go.RowKit
set_option linter.unusedVariables false

theorem fnok (g0_0 : Nat → Int) (g0_1 : Nat → Int) (m1 : Nat) (bn1 : Nat) (g1 : Nat → Int) (h0 : ∀ i, IntKind.i64.has (g0_0 i)) (h1 : ∀ i, IntKind.u8.has (g0_1 i)) (h2 : m1 ≤ maxLen) (h3 : ∀ z, IntKind.u8.has (g1 z)) : FnOk Try.prog 13 [.agg [⟨.i64, 2, g0_0⟩, ⟨.u8, 520, g0_1⟩], .slice false 0 0 m1 .unk 8] [⟨false, .flat bn1 (.ints .u8 g1)⟩] (.bool true) [⟨false, .flat bn1 (.ints .u8 g1)⟩] := by
  obtain ⟨v, sh', h1, h2⟩ := fn_ok (H.E76_ok 3000000) (kp := H.laws_FnExactIsSubcoalgebra_su.kp) (N := 3000000) Try.func13 (c := H.laws_FnExactIsSubcoalgebra_su.bd) (by kernel_rfl) ((H.laws_FnExactIsSubcoalgebra_su.eq 3000000 (fun v h => some (v, h)) g0_0 g0_1 m1 bn1 g1).trans (H.fnExactIsSubcoalgebra_law _ g0_0 g0_1 m1 bn1 g1 h0 h1 h2 h3))
  cases h1
  exact h2

theorem own : ownKnob Try.prog.godebug = none := by kernel_rfl
set_option maxRecDepth 100000 in
theorem lifted (os : Os) (started : os.Started) (H : Type) (enc : TypeId × Value → H) :
    ReturnsInHanded {} Try.checked os 13 .any (Rows.fnExactIsSubcoalgebraSpec.pre6 enc Try.prog Try.f13 Rows.fnExactIsSubcoalgebraRow.domain false) (Rows.fnExactIsSubcoalgebraSpec.post enc Try.prog Try.f13 false true false false) := by
  refine returns_true (C := Try.checked) own started (by kernel_rfl) Try.func13
    (witness_of (enc := enc) (C := Try.checked) (f := 13) (fn := Try.f13) #[.agg (noughts [(2, .i64, 2), (5, .u8, 520)]), .slice none 0 0] 8 (by kernel_rfl) (by kernel_rfl) (by kernel_rfl) Try.func13 (by kernel_rfl) (by kernel_rfl) (by kernel_rfl) (by kernel_rfl)
    (fun w b j t v hj hv => by
      match j, hj, hv with
      | 0, hj, hv =>
        obtain rfl : (26 : Nat) = t := Option.some.inj hj
        obtain rfl : (.agg (noughts [(2, .i64, 2), (5, .u8, 520)]) : Value) = v := Option.some.inj hv
        exact okWide_flat (by kernel_rfl)
      | 1, hj, hv =>
        obtain rfl : (68 : Nat) = t := Option.some.inj hj
        obtain rfl : (.slice none 0 0 : Value) = v := Option.some.inj hv
        exact okWide_nil Try.underlying68
      | j + 2, hj, hv => simp at hv) (by kernel_rfl))
    rfl (by kernel_rfl) (by kernel_rfl) (tb := 4) rfl Try.underlying4 (fun ds h => by
      match ds, h with
      | [_, _], _ => rfl) ?_
  intro W base args ds ps hval hsz hA
  obtain ⟨v0, v1, rfl⟩ := args2 hsz
  obtain ⟨R0, rfl, e0, w0⟩ := ok_flat (flatB_of (rs := [(2, .i64, 2), (5, .u8, 520)]) (by kernel_rfl)) (hval 0 _ v0 rfl rfl)
  obtain ⟨g0_0, Q0_0, rfl, f0_0⟩ := run_cons e0
  obtain ⟨g0_1, Q0_1, rfl, f0_1⟩ := run_cons f0_0
  cases run_nil f0_1
  have w0_0 := w0 _ (List.mem_cons_self ..)
  have w0_1 := w0 _ (List.mem_cons_of_mem _ (List.mem_cons_self ..))
  obtain ⟨d1, q1, h1⟩ := trodAll_at (i := 1) (t := 68) (v := v1) hA rfl rfl
  obtain ⟨m1, g1, L1, hm1, hg1, hL1, hs1⟩ := arg_flat (k := .u8) (n := 8) Try.underlying68 (by kernel_rfl) (by decide) (hval 1 68 v1 rfl rfl) h1
  have hr : HRel (fun i => ([L1] : List Hy.Loc)[i]?) [⟨false, .flat 0 (.ints .u8 g1)⟩] W := hrel_ro rfl rfl (fun b x hb => by
    match b, hb with
    | 0, hb =>
      obtain rfl := Option.some.inj hb
      exact ⟨_, rfl, hL1 _ _⟩
    | b + 1, hb => simp at hb)
  exact (FnOk.below' (ys := [_, _]) (fnok g0_0 g0_1 m1 0 g1 w0_0 w0_1 hm1 hg1) rfl hr ⟨rfl, hs1 _ 0 rfl, trivial⟩).mono fun e w' ⟨γ, y, he, hv, hb⟩ => ⟨by rw [he, show y = _ from hv], hb⟩

theorem over : Rows.fnExactIsSubcoalgebraRow.holds Try.pinned (OpenSpec.ofChange Rows.fnExactIsSubcoalgebraSpec) :=
  OpenClaim.holds_of_wide 13 Try.f13 rfl rfl rfl rfl rfl rfl rfl ⟨rfl, rfl, rfl, rfl, rfl⟩ rfl rfl rfl rfl rfl (by kernel_rfl) Try.func13 (by kernel_rfl)
    (of_decide_eq_true (by kernel_rfl)) (by unfold Func.isWrapper; first | (rw [if_pos (by decide +kernel)]; kernel_rfl) | (rw [if_neg (by decide +kernel)]; exact ⟨rfl, rfl⟩))
    (fun os started H enc _ => lifted os started H enc)
theorem proved : Rows.FnExactIsSubcoalgebraSaid := over
#print axioms proved
end Go.Proofs.Ythecjjnieojjoaa.fnExactIsSubcoalgebra
namespace Go.Proofs.Ythecjjnieojjoaa
/-- The row, under a short name, for the claim. -/
theorem fnExactIsSubcoalgebra_holds : Rows.FnExactIsSubcoalgebraSaid := fnExactIsSubcoalgebra.proved
end Go.Proofs.Ythecjjnieojjoaa
