import Derived.Test.YthecjjnieojjoaaRows
import Derived.Test.YthecjjnieojjoaaHL4
import Derived.Test.YthecjjnieojjoaaHZ
import Derived.Test.YthecjjnieojjoaaHyArg
namespace Go.Proofs.Ythecjjnieojjoaa.fnExactPrimitiveSpace
set_option linter.unusedVariables false
set_option linter.unusedSimpArgs false
open Go Go.Proofs.Ythecjjnieojjoaa.Hy Go.ChangeShapes Go.WideShapes Go.ChangeAt Go.RowKit
theorem fnok (g0_0 : Nat → Int) (g0_1 : Nat → Int) (g1_0 : Nat → Int) (g2_0 : Nat → Int) (h0 : ∀ i, IntKind.i64.has (g0_0 i)) (h1 : ∀ i, IntKind.u8.has (g0_1 i)) (h2 : ∀ i, IntKind.u8.has (g1_0 i)) (h3 : ∀ i, IntKind.u8.has (g2_0 i)) : FnOk Try.prog 14 [.agg [⟨.i64, 2, g0_0⟩, ⟨.u8, 520, g0_1⟩], .agg [⟨.u8, 8, g1_0⟩], .agg [⟨.u8, 8, g2_0⟩]] [] (.bool true) [] := by
  obtain ⟨v, sh', h1, h2⟩ := fn_ok (H.E79_ok 6000) (kp := H.laws_FnExactPrimitiveSpace.kp) (N := 6000) Try.func14 (c := H.laws_FnExactPrimitiveSpace.bd) (by kernel_rfl) ((H.laws_FnExactPrimitiveSpace.eq 6000 (fun v h => some (v, h)) g0_0 g0_1 g1_0 g2_0).trans (H.fnExactPrimitiveSpace_law _ g0_0 g0_1 g1_0 g2_0 h0 h1 h2 h3))
  cases h1
  exact h2
theorem own : ownKnob Try.prog.godebug = none := by kernel_rfl
set_option maxRecDepth 100000 in
theorem lifted (os : Os) (started : os.Started) (H : Type) (enc : TypeId × Value → H) :
    ReturnsInHanded {} Try.checked os 14 .any (Rows.fnExactPrimitiveSpaceSpec.pre6 enc Try.prog Try.f14 Rows.fnExactPrimitiveSpaceRow.domain false) (Rows.fnExactPrimitiveSpaceSpec.post enc Try.prog Try.f14 false true false false) := by
  refine returns_true (C := Try.checked) own started (by kernel_rfl) Try.func14
    (witness_of (enc := enc) (C := Try.checked) (f := 14) (fn := Try.f14) #[.agg (noughts [(2, .i64, 2), (5, .u8, 520)]), .agg (noughts [(5, .u8, 8)]), .agg (noughts [(5, .u8, 8)])] 8 (by kernel_rfl) (by kernel_rfl) (by kernel_rfl) Try.func14 (by kernel_rfl) (by kernel_rfl) (by kernel_rfl) (by kernel_rfl)
    (fun w b j t v hj hv => by
      match j, hj, hv with
      | 0, hj, hv =>
        obtain rfl : (26 : Nat) = t := Option.some.inj hj
        obtain rfl : (.agg (noughts [(2, .i64, 2), (5, .u8, 520)]) : Value) = v := Option.some.inj hv
        exact okWide_flat (by kernel_rfl)
      | 1, hj, hv =>
        obtain rfl : (22 : Nat) = t := Option.some.inj hj
        obtain rfl : (.agg (noughts [(5, .u8, 8)]) : Value) = v := Option.some.inj hv
        exact okWide_flat (by kernel_rfl)
      | 2, hj, hv =>
        obtain rfl : (22 : Nat) = t := Option.some.inj hj
        obtain rfl : (.agg (noughts [(5, .u8, 8)]) : Value) = v := Option.some.inj hv
        exact okWide_flat (by kernel_rfl)
      | j + 3, hj, hv => simp at hv) (by kernel_rfl))
    rfl (by kernel_rfl) (by kernel_rfl) (tb := 4) rfl Try.underlying4 (fun ds h => by
      match ds, h with
      | [_, _, _], _ => rfl) ?_
  intro W base args ds ps hval hsz hA
  obtain ⟨v0, v1, v2, rfl⟩ := args3 hsz
  obtain ⟨R0, rfl, e0, w0⟩ := ok_flat (flatB_of (rs := [(2, .i64, 2), (5, .u8, 520)]) (by kernel_rfl)) (hval 0 _ v0 rfl rfl)
  obtain ⟨g0_0, Q0_0, rfl, f0_0⟩ := run_cons e0
  obtain ⟨g0_1, Q0_1, rfl, f0_1⟩ := run_cons f0_0
  cases run_nil f0_1
  have w0_0 := w0 _ (List.mem_cons_self ..)
  have w0_1 := w0 _ (List.mem_cons_of_mem _ (List.mem_cons_self ..))
  obtain ⟨R1, rfl, e1, w1⟩ := ok_flat (flatB_of (rs := [(5, .u8, 8)]) (by kernel_rfl)) (hval 1 _ v1 rfl rfl)
  obtain ⟨g1_0, Q1_0, rfl, f1_0⟩ := run_cons e1
  cases run_nil f1_0
  have w1_0 := w1 _ (List.mem_cons_self ..)
  obtain ⟨R2, rfl, e2, w2⟩ := ok_flat (flatB_of (rs := [(5, .u8, 8)]) (by kernel_rfl)) (hval 2 _ v2 rfl rfl)
  obtain ⟨g2_0, Q2_0, rfl, f2_0⟩ := run_cons e2
  cases run_nil f2_0
  have w2_0 := w2 _ (List.mem_cons_self ..)
  exact (FnOk.below (ys := [_, _, _]) (fnok g0_0 g0_1 g1_0 g2_0 w0_0 w0_1 w1_0 w2_0) ⟨rfl, rfl, rfl, trivial⟩).mono fun e w' ⟨γ, y, he, hv, hb⟩ => ⟨by rw [he, show y = _ from hv], hb⟩
theorem over : Rows.fnExactPrimitiveSpaceRow.holds Try.pinned (OpenSpec.ofChange Rows.fnExactPrimitiveSpaceSpec) :=
  OpenClaim.holds_of_wide 14 Try.f14 rfl rfl rfl rfl rfl rfl rfl ⟨rfl, rfl, rfl, rfl, rfl⟩ rfl rfl rfl rfl rfl (by kernel_rfl) Try.func14 (by kernel_rfl)
    (of_decide_eq_true (by kernel_rfl)) (by unfold Func.isWrapper; first | (rw [if_pos (by decide +kernel)]; kernel_rfl) | (rw [if_neg (by decide +kernel)]; exact ⟨rfl, rfl⟩))
    (fun os started H enc _ => lifted os started H enc)
theorem proved : Rows.FnExactPrimitiveSpaceSaid := over
#print axioms proved
end Go.Proofs.Ythecjjnieojjoaa.fnExactPrimitiveSpace
namespace Go.Proofs.Ythecjjnieojjoaa
theorem fnExactPrimitiveSpace_holds : Rows.FnExactPrimitiveSpaceSaid := fnExactPrimitiveSpace.proved
end Go.Proofs.Ythecjjnieojjoaa
