import Derived.Test.YtcdogefmbenplaaDoorRows
import Derived.Test.YtcdogefmbenplaaDoorHL0
import Derived.Test.YtcdogefmbenplaaDoorHZ
import Derived.Test.YtcdogefmbenplaaDoorHgArg
import Derived.Test.YtcdogefmbenplaaDoorHgDoor
import Derived.Test.YtcdogefmbenplaaDoorTie
import Derived.Test.YtcdogefmbenplaaDoorCards
import Derived.SevenTiedAt
import Derived.LaidSub
import Derived.Lib.LaidTab
namespace Go.Proofs.YtcdogefmbenplaaDoor.fnExactKnownNames
set_option linter.unusedVariables false
set_option linter.unusedSimpArgs false
set_option linter.unusedSectionVars false
open Go Go.Proofs.YtcdogefmbenplaaDoor.Hg Go.ChangeShapes Go.WideShapes Go.ChangeAt Go.RowKit
theorem fnok  : FnOk Tryd.prog 3 [] [] (.bool true) [] := by
  obtain ⟨v, sh', h1, h2⟩ := fn_ok (H.E8_ok 5000) (kp := H.laws_FnExactKnownNames.kp) (N := 5000) Tryd.func3 (c := H.laws_FnExactKnownNames.bd) (by kernel_rfl) ((H.laws_FnExactKnownNames.eq 5000 (fun v h => some (v, h)) ).trans (H.fnExactKnownNames_law _ ))
  cases h1
  exact h2
theorem tabE : (Rows.laid_strings_asciiSpace : DataW Unit) = Lib.tabData .u8 Lib.asciiSpaceTab := by kernel_rfl
theorem glob_of {W : World} (h : laidMetH Tryd.prog Rows.fnExactKnownNamesRow.laid W) : Lib.TabIs Tryd.prog W "strings.asciiSpace" .u8 Lib.asciiSpaceTab := by
  have h1 := (laidMetH_iff.1 h).1.filter (fun x => x.1 == "strings.asciiSpace")
  have e : ((Rows.fnExactKnownNamesRow.laid.filter fun x => x.2.handleName?.isNone).filter fun x => x.1 == "strings.asciiSpace") = [("strings.asciiSpace", Rows.laid_strings_asciiSpace)] := by kernel_rfl
  rw [e, tabE] at h1
  exact Lib.tabIs_of_head H.gnum H.gType H.gArr H.gEl H.gC1 H.gC2 h1
theorem own : ownKnob Tryd.prog.godebug = none := by kernel_rfl
set_option maxRecDepth 100000 in
theorem lifted (os : Os) (started : os.Started) (H : Type) (enc : TypeId × Value → H) :
    ReturnsInHanded {} Tryd.checked os 3 .any (fun w args => (Rows.fnExactKnownNamesSpec.pre enc Tryd.prog Tryd.f3 Rows.fnExactKnownNamesRow.domain false w args ∧ laidMetH Tryd.prog Rows.fnExactKnownNamesRow.laid w) ∧ sizedMet enc Tryd.prog Tryd.f3 (OpenSpec.ofChange Rows.fnExactKnownNamesSpec) false w args) (Rows.fnExactKnownNamesSpec.post enc Tryd.prog Tryd.f3 false true false false) := by
  refine returns_true_laid (C := Tryd.checked) own started (by kernel_rfl) Tryd.func3
    (witness_laid (enc := enc) (C := Tryd.checked) (os := os) (laid := Rows.fnExactKnownNamesRow.laid) #[] 8 (by kernel_rfl) (by kernel_rfl) (by kernel_rfl) (by kernel_rfl) (by kernel_rfl)
      (laidMetH_of_parts (laidMet_laidAll _ (by kernel_rfl) (by kernel_rfl)) (by kernel_rfl)))
    rfl (by kernel_rfl) (by kernel_rfl) (tb := 4) rfl Tryd.underlying4 (fun ds h => by
      match ds, h with
      | [], _ => rfl) ?_
  intro W base args ds ps hval hsz hA hlaid
  cases args0 hsz
  exact (FnOk.below (ys := []) (fnok ) (glob_of hlaid) trivial).mono fun e w' ⟨γ, y, he, hv, hb⟩ => ⟨by rw [he, show y = _ from hv], hb⟩
theorem over : Rows.fnExactKnownNamesRow.holds Tryd.pinned (OpenSpec.ofChange Rows.fnExactKnownNamesSpec) :=
  OpenClaim.holds_of_wide 3 Tryd.f3 rfl rfl rfl rfl rfl rfl rfl ⟨rfl, rfl, rfl, rfl, rfl⟩ rfl rfl rfl rfl rfl (by kernel_rfl) Tryd.func3 (by kernel_rfl)
    (of_decide_eq_true (by kernel_rfl)) (by unfold Func.isWrapper; first | (rw [if_pos (by decide +kernel)]; kernel_rfl) | (rw [if_neg (by decide +kernel)]; exact ⟨rfl, rfl⟩))
    (fun os started H enc _ => lifted os started H enc)
theorem proved : Rows.FnExactKnownNamesCardSaid :=
  Claim7.holds_tied_plain_at .later [] [.listed, .data] true (true, "5e0b3fa6bba86a257b1a4723b53cee273ee95f74bb16eb160917d2e03977b8fc") false
    over (fun _ h => by cases h) (by kernel_rfl) (fun _ h => by cases h) fnExactKnownNames_row_tie rfl ⟨rfl, rfl⟩ (by kernel_rfl) rfl
    (fun f fn hf hfn => by
      obtain rfl : f = 3 := Option.some.inj ((show Tryd.prog.funcNamed "loop.example/g01230/laws.FnExactKnownNames" = some 3 by kernel_rfl).symm.trans hf) |>.symm
      obtain rfl : fn = Tryd.f3 := (Option.some.inj (Tryd.func3.symm.trans hfn)).symm
      exact ⟨by kernel_rfl, fun j t ht => by
        exact absurd ht (by simp [Tryd.params3])⟩)
    (by kernel_rfl)
#print axioms proved
end Go.Proofs.YtcdogefmbenplaaDoor.fnExactKnownNames
namespace Go.Proofs.YtcdogefmbenplaaDoor
theorem fnExactKnownNamesCard_holds : Rows.FnExactKnownNamesCardSaid := fnExactKnownNames.proved
end Go.Proofs.YtcdogefmbenplaaDoor
