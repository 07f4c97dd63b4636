/- FnExactReduceVectors: the given row. The law returns true for all arguments. No condition. -/
import Derived.Test.YtfiopadjbheclaaRows
import Derived.Test.YtfiopadjbheclaaHL2
import Derived.Test.YtfiopadjbheclaaHRX
import Derived.Test.YtfiopadjbheclaaHyArg
namespace Go.Proofs.Ytfiopadjbheclaa.fnExactReduceVectors
set_option linter.unusedVariables false
set_option linter.unusedSimpArgs false
open Go Go.Proofs.Ytfiopadjbheclaa.Hy Go.ChangeShapes Go.WideShapes Go.ChangeAt Go.RowKit
set_option linter.unusedVariables false

theorem fnok (a0 : Int) (a1 : Int) (m2 : Nat) (bn2 : Nat) (g2 : Nat → Int) (h0 : IntKind.i64.has a0) (h1 : IntKind.i64.has a1) (h2 : m2 ≤ maxLen) (h3 : ∀ z, IntKind.u8.has (g2 z)) : FnOk Try.prog 3 [.int .i64 a0, .int .i64 a1, .slice false 0 0 m2 .unk 8] [⟨false, .flat bn2 (.ints .u8 g2)⟩] (.bool true) [⟨false, .flat bn2 (.ints .u8 g2)⟩] := by
  obtain ⟨v, sh', h1, h2⟩ := fn_ok (H.E41_ok 3000000) (kp := H.laws_FnExactReduceVectors_su.kp) (N := 3000000) Try.func3 (c := H.laws_FnExactReduceVectors_su.bd) (by kernel_rfl) ((H.laws_FnExactReduceVectors_su.eq 3000000 (fun v h => some (v, h)) a0 a1 m2 bn2 g2).trans (H.fnExactReduceVectors_law _ a0 a1 m2 bn2 g2 h0 h1 h2 h3))
  cases h1
  exact h2

theorem own : ownKnob Try.prog.godebug = none := by kernel_rfl
set_option maxRecDepth 100000 in
theorem lifted (os : Os) (started : os.Started) (H : Type) (enc : TypeId × Value → H) :
    ReturnsInHanded {} Try.checked os 3 .any (Rows.fnExactReduceVectorsSpec.pre6 enc Try.prog Try.f3 Rows.fnExactReduceVectorsRow.domain false) (Rows.fnExactReduceVectorsSpec.post enc Try.prog Try.f3 false true false false) := by
  refine returns_true (C := Try.checked) own started (by kernel_rfl) Try.func3
    (witness_of (enc := enc) (C := Try.checked) (f := 3) (fn := Try.f3) #[.int .i64 0, .int .i64 0, .slice none 0 0] 8 (by kernel_rfl) (by kernel_rfl) (by kernel_rfl) Try.func3 (by kernel_rfl) (by kernel_rfl) (by kernel_rfl) (by kernel_rfl)
    (fun w b j t v hj hv => by
      match j, hj, hv with
      | 0, hj, hv =>
        obtain rfl : (2 : Nat) = t := Option.some.inj hj
        obtain rfl : (.int .i64 0 : Value) = v := Option.some.inj hv
        exact okWide_int Try.underlying2
      | 1, hj, hv =>
        obtain rfl : (2 : Nat) = t := Option.some.inj hj
        obtain rfl : (.int .i64 0 : Value) = v := Option.some.inj hv
        exact okWide_int Try.underlying2
      | 2, hj, hv =>
        obtain rfl : (22 : Nat) = t := Option.some.inj hj
        obtain rfl : (.slice none 0 0 : Value) = v := Option.some.inj hv
        exact okWide_nil Try.underlying22
      | j + 3, hj, hv => simp at hv) (by kernel_rfl))
    rfl (by kernel_rfl) (by kernel_rfl) (tb := 4) rfl Try.underlying4 (fun ds h => by
      match ds, h with
      | [_, _, _], _ => rfl) ?_
  intro W base args ds ps hval hsz hA
  obtain ⟨v0, v1, v2, rfl⟩ := args3 hsz
  obtain ⟨a0, rfl, w0⟩ := ok_int Try.underlying2 (hval 0 2 v0 rfl rfl)
  obtain ⟨a1, rfl, w1⟩ := ok_int Try.underlying2 (hval 1 2 v1 rfl rfl)
  obtain ⟨d2, q2, h2⟩ := trodAll_at (i := 2) (t := 22) (v := v2) hA rfl rfl
  obtain ⟨m2, g2, L2, hm2, hg2, hL2, hs2⟩ := arg_flat (k := .u8) (n := 8) Try.underlying22 (by kernel_rfl) (by decide) (hval 2 22 v2 rfl rfl) h2
  have hr : HRel (fun i => ([L2] : List Hy.Loc)[i]?) [⟨false, .flat 0 (.ints .u8 g2)⟩] W := hrel_ro rfl rfl (fun b x hb => by
    match b, hb with
    | 0, hb =>
      obtain rfl := Option.some.inj hb
      exact ⟨_, rfl, hL2 _ _⟩
    | b + 1, hb => simp at hb)
  exact (FnOk.below' (ys := [_, _, _]) (fnok a0 a1 m2 0 g2 w0 w1 hm2 hg2) rfl hr ⟨rfl, rfl, hs2 _ 0 rfl, trivial⟩).mono fun e w' ⟨γ, y, he, hv, hb⟩ => ⟨by rw [he, show y = _ from hv], hb⟩

theorem over : Rows.fnExactReduceVectorsRow.holds Try.pinned (OpenSpec.ofChange Rows.fnExactReduceVectorsSpec) :=
  OpenClaim.holds_of_wide 3 Try.f3 rfl rfl rfl rfl rfl rfl rfl ⟨rfl, rfl, rfl, rfl, rfl⟩ rfl rfl rfl rfl rfl (by kernel_rfl) Try.func3 (by kernel_rfl)
    (of_decide_eq_true (by kernel_rfl)) (by unfold Func.isWrapper; first | (rw [if_pos (by decide +kernel)]; kernel_rfl) | (rw [if_neg (by decide +kernel)]; exact ⟨rfl, rfl⟩))
    (fun os started H enc _ => lifted os started H enc)
theorem proved : Rows.FnExactReduceVectorsSaid := over
#print axioms proved
end Go.Proofs.Ytfiopadjbheclaa.fnExactReduceVectors
namespace Go.Proofs.Ytfiopadjbheclaa
/-- The row, under a short name, for the claim. -/
theorem fnExactReduceVectors_holds : Rows.FnExactReduceVectorsSaid := fnExactReduceVectors.proved
end Go.Proofs.Ytfiopadjbheclaa
