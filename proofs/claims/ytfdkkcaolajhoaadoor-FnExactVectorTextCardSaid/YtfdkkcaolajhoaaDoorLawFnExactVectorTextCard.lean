import Derived.Test.YtfdkkcaolajhoaaDoorRows
import Derived.Test.YtfdkkcaolajhoaaDoorHL0
import Derived.Test.YtfdkkcaolajhoaaDoorHZ
import Derived.Test.YtfdkkcaolajhoaaDoorHyArg
import Derived.Test.YtfdkkcaolajhoaaDoorHyDoor
import Derived.Test.YtfdkkcaolajhoaaDoorTie
import Derived.Test.YtfdkkcaolajhoaaDoorCards
import Derived.SevenTiedAt
namespace Go.Proofs.YtfdkkcaolajhoaaDoor.fnExactVectorText
set_option linter.unusedVariables false
set_option linter.unusedSimpArgs false
open Go Go.Proofs.YtfdkkcaolajhoaaDoor.Hy Go.ChangeShapes Go.WideShapes Go.ChangeAt Go.RowKit
theorem fnok (a0 : Int) (a1 : Int) (g2_0 : Nat → Int) (h0 : IntKind.i64.has a0) (h1 : IntKind.i64.has a1) (h2 : ∀ i, IntKind.u8.has (g2_0 i)) : FnOk Tryd.prog 3 [.int .i64 a0, .int .i64 a1, .agg [⟨.u8, 8, g2_0⟩]] [] (.bool true) [] := by
  obtain ⟨v, sh', h1, h2⟩ := fn_ok (H.E18_ok 5000) (kp := H.laws_FnExactVectorText.kp) (N := 5000) Tryd.func3 (c := H.laws_FnExactVectorText.bd) (by kernel_rfl) ((H.laws_FnExactVectorText.eq 5000 (fun v h => some (v, h)) a0 a1 g2_0).trans (H.fnExactVectorText_law _ a0 a1 g2_0 h0 h1 h2))
  cases h1
  exact h2
theorem own : ownKnob Tryd.prog.godebug = none := by kernel_rfl
set_option maxRecDepth 100000 in
theorem lifted (os : Os) (started : os.Started) (H : Type) (enc : TypeId × Value → H) :
    ReturnsInHanded {} Tryd.checked os 3 .any (fun w args => (Rows.fnExactVectorTextSpec.pre enc Tryd.prog Tryd.f3 Rows.fnExactVectorTextRow.domain false w args ∧ laidMetH Tryd.prog Rows.fnExactVectorTextRow.laid w) ∧ sizedMet enc Tryd.prog Tryd.f3 (OpenSpec.ofChange Rows.fnExactVectorTextSpec) false w args) (Rows.fnExactVectorTextSpec.post enc Tryd.prog Tryd.f3 false true false false) := by
  refine returns_true_laid (C := Tryd.checked) own started (by kernel_rfl) Tryd.func3
    (ChangeSpec.witness_at (enc := enc) (C := Tryd.checked) (os := os) (X := fun w _ => laidMetH Tryd.prog Rows.fnExactVectorTextRow.laid w) false (World.laidAll Tryd.prog os Rows.fnExactVectorTextRow.laid) #[.int .i64 0, .int .i64 0, .agg (noughts [(5, .u8, 8)])] 8 (World.laidAll_os _ _ _) (by kernel_rfl) (by kernel_rfl) (by kernel_rfl) (by kernel_rfl) (by kernel_rfl)
      (laidMetH_of_parts (laidMet_laidAll _ (by kernel_rfl) (by kernel_rfl)) (by kernel_rfl)))
    rfl (by kernel_rfl) (by kernel_rfl) (tb := 4) rfl Tryd.underlying4 (fun ds h => by
      match ds, h with
      | [_, _, _], _ => rfl) ?_
  intro W base args ds ps hval hsz hA
  obtain ⟨v0, v1, v2, rfl⟩ := args3 hsz
  obtain ⟨a0, rfl, w0⟩ := ok_int Tryd.underlying2 (hval 0 2 v0 rfl rfl)
  obtain ⟨a1, rfl, w1⟩ := ok_int Tryd.underlying2 (hval 1 2 v1 rfl rfl)
  obtain ⟨R2, rfl, e2, w2⟩ := ok_flat (flatB_of (rs := [(5, .u8, 8)]) (by kernel_rfl)) (hval 2 _ v2 rfl rfl)
  obtain ⟨g2_0, Q2_0, rfl, f2_0⟩ := run_cons e2
  cases run_nil f2_0
  have w2_0 := w2 _ (List.mem_cons_self ..)
  exact (FnOk.below (ys := [_, _, _]) (fnok a0 a1 g2_0 w0 w1 w2_0) ⟨rfl, rfl, rfl, trivial⟩).mono fun e w' ⟨γ, y, he, hv, hb⟩ => ⟨by rw [he, show y = _ from hv], hb⟩
theorem over : Rows.fnExactVectorTextRow.holds Tryd.pinned (OpenSpec.ofChange Rows.fnExactVectorTextSpec) :=
  OpenClaim.holds_of_wide 3 Tryd.f3 rfl rfl rfl rfl rfl rfl rfl ⟨rfl, rfl, rfl, rfl, rfl⟩ rfl rfl rfl rfl rfl (by kernel_rfl) Tryd.func3 (by kernel_rfl)
    (of_decide_eq_true (by kernel_rfl)) (by unfold Func.isWrapper; first | (rw [if_pos (by decide +kernel)]; kernel_rfl) | (rw [if_neg (by decide +kernel)]; exact ⟨rfl, rfl⟩))
    (fun os started H enc _ => lifted os started H enc)
theorem proved : Rows.FnExactVectorTextCardSaid :=
  Claim7.holds_tied_plain_at .later [] [.data, .data, .data] true (true, "c0eb6275d645641cc3755c9c66915775ed41870a74b9271f8c22f890581bf23b") true
    over (fun _ h => by cases h) (by kernel_rfl) (fun _ h => by cases h) fnExactVectorText_row_tie rfl ⟨rfl, rfl⟩ (by kernel_rfl) rfl
    (fun f fn hf hfn => by
      obtain rfl : f = 3 := Option.some.inj ((show Tryd.prog.funcNamed "loop.example/g01230/laws.FnExactVectorText" = some 3 by kernel_rfl).symm.trans hf) |>.symm
      obtain rfl : fn = Tryd.f3 := (Option.some.inj (Tryd.func3.symm.trans hfn)).symm
      exact ⟨by kernel_rfl, fun j t ht => by
        have hm := List.mem_of_getElem? (l := Tryd.f3.params.toList) (by simpa using ht)
        have hb := List.all_eq_true.1 (show (Tryd.f3.params.toList.all fun t => !(Tryd.prog.wantsStandIn t)) = true by kernel_rfl) t hm
        have hb' : Tryd.prog.wantsStandIn t = false := by simpa using hb
        exact hb'⟩)
    (by kernel_rfl)
#print axioms proved
end Go.Proofs.YtfdkkcaolajhoaaDoor.fnExactVectorText
namespace Go.Proofs.YtfdkkcaolajhoaaDoor
theorem fnExactVectorTextCard_holds : Rows.FnExactVectorTextCardSaid := fnExactVectorText.proved
end Go.Proofs.YtfdkkcaolajhoaaDoor
