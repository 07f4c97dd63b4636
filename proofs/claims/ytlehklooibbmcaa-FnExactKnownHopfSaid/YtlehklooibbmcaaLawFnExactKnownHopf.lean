import Derived.Test.YtlehklooibbmcaaRows
import Derived.Test.YtlehklooibbmcaaHL6
import Derived.Test.YtlehklooibbmcaaHZ
import Derived.Test.YtlehklooibbmcaaHyArg
namespace Go.Proofs.Ytlehklooibbmcaa.fnExactKnownHopf
set_option linter.unusedVariables false
set_option linter.unusedSimpArgs false
open Go Go.Proofs.Ytlehklooibbmcaa.Hy Go.ChangeShapes Go.WideShapes Go.ChangeAt Go.RowKit
theorem fnok (s0 : ByteArray) (a1 : Int) (h0 : (s0.size : Int) ≤ 9223372036854775807) (h1 : IntKind.i64.has a1) : FnOk Try.prog 3 [.str s0, .int .i64 a1] [] (.bool true) [] := by
  obtain ⟨v, sh', h1, h2⟩ := fn_ok (H.E84_ok 5000) (kp := H.Q87.kp) (N := 5000) Try.func3 (c := H.Q87.bd) (by kernel_rfl) ((H.Q87.eq 5000 (fun v h => some (v, h)) s0 a1).trans (H.fnExactKnownHopf_law _ s0 a1 h0 h1))
  cases h1
  exact h2
theorem own : ownKnob Try.prog.godebug = none := by kernel_rfl
set_option maxRecDepth 100000 in
theorem lifted (os : Os) (started : os.Started) (H : Type) (enc : TypeId × Value → H) :
    ReturnsInHanded {} Try.checked os 3 .any (Rows.fnExactKnownHopfSpec.pre6 enc Try.prog Try.f3 Rows.fnExactKnownHopfRow.domain false) (Rows.fnExactKnownHopfSpec.post enc Try.prog Try.f3 false true false false) := by
  refine returns_true (C := Try.checked) own started (by kernel_rfl) Try.func3
    (witness_of (enc := enc) (C := Try.checked) (f := 3) (fn := Try.f3) #[.string ByteArray.empty, .int .i64 0] 8 (by kernel_rfl) (by kernel_rfl) (by kernel_rfl) Try.func3 (by kernel_rfl) (by kernel_rfl) (by kernel_rfl) (by kernel_rfl)
    (fun w b j t v hj hv => by
      match j, hj, hv with
      | 0, hj, hv =>
        obtain rfl : (9 : Nat) = t := Option.some.inj hj
        obtain rfl : (.string ByteArray.empty : Value) = v := Option.some.inj hv
        exact okWide_str Try.underlying9
      | 1, hj, hv =>
        obtain rfl : (2 : Nat) = t := Option.some.inj hj
        obtain rfl : (.int .i64 0 : Value) = v := Option.some.inj hv
        exact okWide_int Try.underlying2
      | j + 2, hj, hv => simp at hv) (by kernel_rfl))
    rfl (by kernel_rfl) (by kernel_rfl) (tb := 4) rfl Try.underlying4 (fun ds h => by
      match ds, h with
      | [_, _], _ => rfl) ?_
  intro W base args ds ps hval hsz hA
  obtain ⟨v0, v1, rfl⟩ := args2 hsz
  obtain ⟨s0, rfl, w0⟩ := ok_str Try.underlying9 (hval 0 9 v0 rfl rfl)
  obtain ⟨a1, rfl, w1⟩ := ok_int Try.underlying2 (hval 1 2 v1 rfl rfl)
  exact (FnOk.below (ys := [_, _]) (fnok s0 a1 w0 w1) ⟨rfl, rfl, trivial⟩).mono fun e w' ⟨γ, y, he, hv, hb⟩ => ⟨by rw [he, show y = _ from hv], hb⟩
theorem over : Rows.fnExactKnownHopfRow.holds Try.pinned (OpenSpec.ofChange Rows.fnExactKnownHopfSpec) :=
  OpenClaim.holds_of_wide 3 Try.f3 rfl rfl rfl rfl rfl rfl rfl ⟨rfl, rfl, rfl, rfl, rfl⟩ rfl rfl rfl rfl rfl (by kernel_rfl) Try.func3 (by kernel_rfl)
    (of_decide_eq_true (by kernel_rfl)) (by unfold Func.isWrapper; first | (rw [if_pos (by decide +kernel)]; kernel_rfl) | (rw [if_neg (by decide +kernel)]; exact ⟨rfl, rfl⟩))
    (fun os started H enc _ => lifted os started H enc)
theorem proved : Rows.FnExactKnownHopfSaid := over
#print axioms proved
end Go.Proofs.Ytlehklooibbmcaa.fnExactKnownHopf
namespace Go.Proofs.Ytlehklooibbmcaa
theorem fnExactKnownHopf_holds : Rows.FnExactKnownHopfSaid := fnExactKnownHopf.proved
end Go.Proofs.Ytlehklooibbmcaa
