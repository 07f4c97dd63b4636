import Derived.Test.YtoeailachidcdaaGreatDoorRows
import Derived.Test.YtoeailachidcdaaGreatDoorHL2
import Derived.Test.YtoeailachidcdaaGreatDoorHZ
import Derived.Test.YtoeailachidcdaaGreatDoorHgArg
import Derived.Test.YtoeailachidcdaaGreatDoorHgDoor
import Derived.Test.YtoeailachidcdaaGreatDoorTie
import Derived.Test.YtoeailachidcdaaGreatDoorCards
import Derived.SevenTiedAt
import Derived.LaidSub
import Derived.Stop.LaidErr
import Derived.Shelf.Vars
namespace Go.Proofs.YtoeailachidcdaaGreatDoor.fnSpaces
set_option linter.unusedVariables false
set_option linter.unusedSimpArgs false
set_option linter.unusedSectionVars false
open Go Go.Proofs.YtoeailachidcdaaGreatDoor.Hg Go.ChangeShapes Go.WideShapes Go.ChangeAt Go.RowKit
theorem fnok (m0 : Nat) (bn0 : Nat) (g0 : Nat → Int) (h0 : m0 ≤ maxLen) (h1 : ∀ z, IntKind.u8.has (g0 z)) : FnOk Tryz.prog 3 [.slice false 0 0 m0 .unk 1] [⟨false, .flat bn0 (.ints .u8 g0)⟩] (.bool true) [⟨false, .flat bn0 (.ints .u8 g0)⟩] := by
  obtain ⟨v, sh', h1, h2⟩ := fn_ok (H.E63_ok 3000000) (kp := H.laws_FnSpaces_su.kp) (N := 3000000) Tryz.func3 (c := H.laws_FnSpaces_su.bd) (by kernel_rfl) ((H.laws_FnSpaces_su.eq 3000000 (fun v h => some (v, h)) m0 bn0 g0).trans (H.fnSpaces_law _ m0 bn0 g0 h0 h1))
  cases h1
  exact h2
theorem star : "*" ++ "errors.errorString" = "*errors.errorString" := by decide
theorem sent_of {W : World} (h : laidMetH Tryz.prog Rows.fnSpacesRow.laid W) {n : String} {g : Nat} {text : List UInt8}
    (hf : ((Rows.fnSpacesRow.laid.filter fun x => x.2.handleName?.isNone).filter fun x => x.1 == n) = [(n, .iface "*errors.errorString" (.ptr (.agg [.lit (.string text)])))])
    (hg : Tryz.prog.globalNamed n = some g) (ht : (Tryz.prog.globals[g]?).map (·.type) = some 68) : ∃ tp p, W.var? Tryz.prog n = some #[.iface tp p] := by
  have h1 := (laidMetH_iff.1 h).1.filter (fun x => x.1 == n)
  rw [hf] at h1
  obtain ⟨a, s, h2, _⟩ := laid_sentinel (ti := 68) (tp := 140) (te := 142) (ts := 9) h1 hg ht Tryz.underlying68 (fun u hu => typeName_ptr_named (nm := "errors.errorString") (by rw [star]; kernel_rfl) (by kernel_rfl) (by decide) u (by rw [star]; exact hu)) Tryz.underlying140 Tryz.underlying142 rfl rfl Tryz.underlying9 (by kernel_rfl) (by kernel_rfl)
  exact ⟨_, _, h2⟩
theorem glob_of {W : World} (h : laidMetH Tryz.prog Rows.fnSpacesRow.laid W) (hs : W.ShapedOpen Tryz.prog) :
    (∃ m, W.cell? ⟨2, 0, none⟩ = some (.int .i64 m)) ∧ (∃ tp p, W.var? Tryz.prog "strconv.ErrSyntax" = some #[.iface tp p]) ∧ ∃ tp p, W.var? Tryz.prog "strconv.ErrRange" = some #[.iface tp p] :=
  ⟨Proofs.cell_of_shapedOpen_int (t := 3) (zero := #[.int .i64 0]) hs (of_decide_eq_true (by kernel_rfl)) (by kernel_rfl) rfl (by kernel_rfl) (by kernel_rfl) Tryz.underlying3,
    sent_of (text := [105, 110, 118, 97, 108, 105, 100, 32, 115, 121, 110, 116, 97, 120]) h (by kernel_rfl) H.g0num (by kernel_rfl), sent_of (text := [118, 97, 108, 117, 101, 32, 111, 117, 116, 32, 111, 102, 32, 114, 97, 110, 103, 101]) h (by kernel_rfl) H.g1num (by kernel_rfl)⟩
theorem own : ownKnob Tryz.prog.godebug = none := by kernel_rfl
set_option maxRecDepth 100000 in
theorem lifted (os : Os) (started : os.Started) (H : Type) (enc : TypeId × Value → H) :
    ReturnsInHanded {} Tryz.checked os 3 .any (fun w args => (Rows.fnSpacesSpec.pre enc Tryz.prog Tryz.f3 Rows.fnSpacesRow.domain false w args ∧ laidMetH Tryz.prog Rows.fnSpacesRow.laid w) ∧ sizedMet enc Tryz.prog Tryz.f3 (OpenSpec.ofChange Rows.fnSpacesSpec) false w args) (Rows.fnSpacesSpec.post enc Tryz.prog Tryz.f3 false true false false) := by
  refine returns_true_laidS (C := Tryz.checked) own started (by kernel_rfl) Tryz.func3
    (witness_laid (enc := enc) (C := Tryz.checked) (os := os) (laid := Rows.fnSpacesRow.laid) #[.slice none 0 0] 8 (by kernel_rfl) (by kernel_rfl) (by kernel_rfl) (by kernel_rfl) (by kernel_rfl)
      (laidMetH_of_parts (laidMet_laidAll _ (by kernel_rfl) (by kernel_rfl)) (by kernel_rfl)))
    rfl (by kernel_rfl) (by kernel_rfl) (tb := 4) rfl Tryz.underlying4 (fun ds h => by
      match ds, h with
      | [_], _ => rfl) ?_
  intro W base args ds ps hval hsz hA hlaid hshape
  obtain ⟨v0, rfl⟩ := args1 hsz
  obtain ⟨d0, q0, h0⟩ := trodAll_at (i := 0) (t := 22) (v := v0) hA rfl rfl
  obtain ⟨m0, g0, L0, hm0, hg0, hL0, hs0⟩ := arg_flat (k := .u8) (n := 1) Tryz.underlying22 (by kernel_rfl) (by decide) (hval 0 22 v0 rfl rfl) h0
  have hr : HRel (fun i => ([L0] : List Hg.Loc)[i]?) [⟨false, .flat 0 (.ints .u8 g0)⟩] W := hrel_ro rfl rfl (fun b x hb => by
    match b, hb with
    | 0, hb =>
      obtain rfl := Option.some.inj hb
      exact ⟨_, rfl, hL0 _ _⟩
    | b + 1, hb => simp at hb) (glob_of hlaid hshape)
  exact (FnOk.below' (ys := [_]) (fnok m0 0 g0 hm0 hg0) rfl hr ⟨hs0 _ 0 rfl, trivial⟩).mono fun e w' ⟨γ, y, he, hv, hb⟩ => ⟨by rw [he, show y = _ from hv], hb⟩
theorem over : Rows.fnSpacesRow.holds Tryz.pinned (OpenSpec.ofChange Rows.fnSpacesSpec) :=
  OpenClaim.holds_of_wide 3 Tryz.f3 rfl rfl rfl rfl rfl rfl rfl ⟨rfl, rfl, rfl, rfl, rfl⟩ rfl rfl rfl rfl rfl (by kernel_rfl) Tryz.func3 (by kernel_rfl)
    (of_decide_eq_true (by kernel_rfl)) (by unfold Func.isWrapper; first | (rw [if_pos (by decide +kernel)]; kernel_rfl) | (rw [if_neg (by decide +kernel)]; exact ⟨rfl, rfl⟩))
    (fun os started H enc _ => lifted os started H enc)
theorem proved : Rows.FnSpacesCardSaid :=
  Claim7.holds_tied_plain_at .later [] [.data, .data, .data, .data, .sentinel, .sentinel, .pinned] true (true, "8d2ed2f971db613502ef73c0eeddbd834783e3ba6bf9ab5f940e5a7705c784b6") true
    over (fun _ h => by cases h) (by kernel_rfl) (fun _ h => by cases h) fnSpaces_row_tie rfl ⟨rfl, rfl⟩ (by kernel_rfl) rfl
    (fun f fn hf hfn => by
      obtain rfl : f = 3 := Option.some.inj ((show Tryz.prog.funcNamed "loop.example/g01230/laws.FnSpaces" = some 3 by kernel_rfl).symm.trans hf) |>.symm
      obtain rfl : fn = Tryz.f3 := (Option.some.inj (Tryz.func3.symm.trans hfn)).symm
      exact ⟨by kernel_rfl, fun j t ht => by
        have hm := List.mem_of_getElem? (l := Tryz.f3.params.toList) (by simpa using ht)
        have hb := List.all_eq_true.1 (show (Tryz.f3.params.toList.all fun t => !(Tryz.prog.wantsStandIn t)) = true by kernel_rfl) t hm
        have hb' : Tryz.prog.wantsStandIn t = false := by simpa using hb
        exact hb'⟩)
    (by kernel_rfl)
#print axioms proved
end Go.Proofs.YtoeailachidcdaaGreatDoor.fnSpaces
namespace Go.Proofs.YtoeailachidcdaaGreatDoor
theorem fnSpacesCard_holds : Rows.FnSpacesCardSaid := fnSpaces.proved
end Go.Proofs.YtoeailachidcdaaGreatDoor
