import Derived.Test.YtmjpfchbkolcbaaRows
import Derived.Test.YtmjpfchbkolcbaaHL4
import Derived.Test.YtmjpfchbkolcbaaHZ
import Derived.Test.YtmjpfchbkolcbaaHyArg
namespace Go.Proofs.Ytmjpfchbkolcbaa.fnExactCentreOf
set_option linter.unusedVariables false
set_option linter.unusedSimpArgs false
open Go Go.Proofs.Ytmjpfchbkolcbaa.Hy Go.ChangeShapes Go.WideShapes Go.ChangeAt Go.RowKit
theorem fnok (g0_0 : Nat → Int) (g0_1 : Nat → Int) (h0 : ∀ i, IntKind.i64.has (g0_0 i)) (h1 : ∀ i, IntKind.u8.has (g0_1 i)) : FnOk Try.prog 13 [.agg [⟨.i64, 2, g0_0⟩, ⟨.u8, 520, g0_1⟩]] [] (.bool true) [] := by
  obtain ⟨v, sh', h1, h2⟩ := fn_ok (H.E68_ok 6000) (kp := H.laws_FnExactCentreOf.kp) (N := 6000) Try.func13 (c := H.laws_FnExactCentreOf.bd) (by kernel_rfl) ((H.laws_FnExactCentreOf.eq 6000 (fun v h => some (v, h)) g0_0 g0_1).trans (H.fnExactCentreOf_law _ g0_0 g0_1 h0 h1))
  cases h1
  exact h2
theorem own : ownKnob Try.prog.godebug = none := by kernel_rfl
set_option maxRecDepth 100000 in
theorem lifted (os : Os) (started : os.Started) (H : Type) (enc : TypeId × Value → H) :
    ReturnsInHanded {} Try.checked os 13 .any (Rows.fnExactCentreOfSpec.pre6 enc Try.prog Try.f13 Rows.fnExactCentreOfRow.domain false) (Rows.fnExactCentreOfSpec.post enc Try.prog Try.f13 false true false false) := by
  refine returns_true (C := Try.checked) own started (by kernel_rfl) Try.func13
    (witness_of (enc := enc) (C := Try.checked) (f := 13) (fn := Try.f13) #[.agg (noughts [(2, .i64, 2), (5, .u8, 520)])] 8 (by kernel_rfl) (by kernel_rfl) (by kernel_rfl) Try.func13 (by kernel_rfl) (by kernel_rfl) (by kernel_rfl) (by kernel_rfl)
    (fun w b j t v hj hv => by
      match j, hj, hv with
      | 0, hj, hv =>
        obtain rfl : (26 : Nat) = t := Option.some.inj hj
        obtain rfl : (.agg (noughts [(2, .i64, 2), (5, .u8, 520)]) : Value) = v := Option.some.inj hv
        exact okWide_flat (by kernel_rfl)
      | j + 1, hj, hv => simp at hv) (by kernel_rfl))
    rfl (by kernel_rfl) (by kernel_rfl) (tb := 4) rfl Try.underlying4 (fun ds h => by
      match ds, h with
      | [_], _ => rfl) ?_
  intro W base args ds ps hval hsz hA
  obtain ⟨v0, rfl⟩ := args1 hsz
  obtain ⟨R0, rfl, e0, w0⟩ := ok_flat (flatB_of (rs := [(2, .i64, 2), (5, .u8, 520)]) (by kernel_rfl)) (hval 0 _ v0 rfl rfl)
  obtain ⟨g0_0, Q0_0, rfl, f0_0⟩ := run_cons e0
  obtain ⟨g0_1, Q0_1, rfl, f0_1⟩ := run_cons f0_0
  cases run_nil f0_1
  have w0_0 := w0 _ (List.mem_cons_self ..)
  have w0_1 := w0 _ (List.mem_cons_of_mem _ (List.mem_cons_self ..))
  exact (FnOk.below (ys := [_]) (fnok g0_0 g0_1 w0_0 w0_1) ⟨rfl, trivial⟩).mono fun e w' ⟨γ, y, he, hv, hb⟩ => ⟨by rw [he, show y = _ from hv], hb⟩
theorem over : Rows.fnExactCentreOfRow.holds Try.pinned (OpenSpec.ofChange Rows.fnExactCentreOfSpec) :=
  OpenClaim.holds_of_wide 13 Try.f13 rfl rfl rfl rfl rfl rfl rfl ⟨rfl, rfl, rfl, rfl, rfl⟩ rfl rfl rfl rfl rfl (by kernel_rfl) Try.func13 (by kernel_rfl)
    (of_decide_eq_true (by kernel_rfl)) (by unfold Func.isWrapper; first | (rw [if_pos (by decide +kernel)]; kernel_rfl) | (rw [if_neg (by decide +kernel)]; exact ⟨rfl, rfl⟩))
    (fun os started H enc _ => lifted os started H enc)
theorem proved : Rows.FnExactCentreOfSaid := over
#print axioms proved
end Go.Proofs.Ytmjpfchbkolcbaa.fnExactCentreOf
namespace Go.Proofs.Ytmjpfchbkolcbaa
theorem fnExactCentreOf_holds : Rows.FnExactCentreOfSaid := fnExactCentreOf.proved
end Go.Proofs.Ytmjpfchbkolcbaa
