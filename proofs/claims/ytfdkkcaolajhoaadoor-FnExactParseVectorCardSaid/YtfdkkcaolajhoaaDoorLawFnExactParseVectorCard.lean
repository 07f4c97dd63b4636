import Derived.Test.YtfdkkcaolajhoaaDoorRows
import Derived.Test.YtfdkkcaolajhoaaDoorHL0
import Derived.Test.YtfdkkcaolajhoaaDoorHZ
import Derived.Test.YtfdkkcaolajhoaaDoorHgArg
import Derived.Test.YtfdkkcaolajhoaaDoorHgDoor
import Derived.Test.YtfdkkcaolajhoaaDoorTie
import Derived.Test.YtfdkkcaolajhoaaDoorCards
import Derived.SevenTiedAt
import Derived.LaidSub
import Derived.Stop.LaidErr
import Derived.Shelf.Vars
namespace Go.Proofs.YtfdkkcaolajhoaaDoor.fnExactParseVector
set_option linter.unusedVariables false
set_option linter.unusedSimpArgs false
set_option linter.unusedSectionVars false
open Go Go.Proofs.YtfdkkcaolajhoaaDoor.Hg Go.ChangeShapes Go.WideShapes Go.ChangeAt Go.RowKit
theorem fnok (a0 : Int) (a1 : Int) (s2 : ByteArray) (h0 : IntKind.i64.has a0) (h1 : IntKind.i64.has a1) (h2 : (s2.size : Int) ≤ 9223372036854775807) : FnOk Tryd.prog 4 [.int .i64 a0, .int .i64 a1, .str s2] [] (.bool true) [] := by
  obtain ⟨v, sh', h1, h2⟩ := fn_ok (H.E17_ok 2000000) (kp := H.laws_FnExactParseVector.kp) (N := 2000000) Tryd.func4 (c := H.laws_FnExactParseVector.bd) (by kernel_rfl) ((H.laws_FnExactParseVector.eq 2000000 (fun v h => some (v, h)) a0 a1 s2).trans (H.fnExactParseVector_law _ a0 a1 s2 h0 h1 h2))
  cases h1
  exact h2
theorem star : "*" ++ "errors.errorString" = "*errors.errorString" := by decide
theorem sent_of {W : World} (h : laidMetH Tryd.prog Rows.fnExactParseVectorRow.laid W) {n : String} {g : Nat} {text : List UInt8}
    (hf : ((Rows.fnExactParseVectorRow.laid.filter fun x => x.2.handleName?.isNone).filter fun x => x.1 == n) = [(n, .iface "*errors.errorString" (.ptr (.agg [.lit (.string text)])))])
    (hg : Tryd.prog.globalNamed n = some g) (ht : (Tryd.prog.globals[g]?).map (·.type) = some 41) : ∃ tp p, W.var? Tryd.prog n = some #[.iface tp p] := by
  have h1 := (laidMetH_iff.1 h).1.filter (fun x => x.1 == n)
  rw [hf] at h1
  obtain ⟨a, s, h2, _⟩ := laid_sentinel (ti := 41) (tp := 89) (te := 91) (ts := 9) h1 hg ht Tryd.underlying41 (fun u hu => typeName_ptr_named (nm := "errors.errorString") (by rw [star]; kernel_rfl) (by kernel_rfl) (by decide) u (by rw [star]; exact hu)) Tryd.underlying89 Tryd.underlying91 rfl rfl Tryd.underlying9 (by kernel_rfl) (by kernel_rfl)
  exact ⟨_, _, h2⟩
theorem glob_of {W : World} (h : laidMetH Tryd.prog Rows.fnExactParseVectorRow.laid W) (hs : W.ShapedOpen Tryd.prog) :
    (∃ m, W.cell? ⟨2, 0, none⟩ = some (.int .i64 m)) ∧ (∃ tp p, W.var? Tryd.prog "strconv.ErrSyntax" = some #[.iface tp p]) ∧ ∃ tp p, W.var? Tryd.prog "strconv.ErrRange" = some #[.iface tp p] :=
  ⟨Proofs.cell_of_shapedOpen_int (t := 3) (zero := #[.int .i64 0]) hs (of_decide_eq_true (by kernel_rfl)) (by kernel_rfl) rfl (by kernel_rfl) (by kernel_rfl) Tryd.underlying3,
    sent_of (text := [105, 110, 118, 97, 108, 105, 100, 32, 115, 121, 110, 116, 97, 120]) h (by kernel_rfl) H.g0num (by kernel_rfl), sent_of (text := [118, 97, 108, 117, 101, 32, 111, 117, 116, 32, 111, 102, 32, 114, 97, 110, 103, 101]) h (by kernel_rfl) H.g1num (by kernel_rfl)⟩
theorem own : ownKnob Tryd.prog.godebug = none := by kernel_rfl
set_option maxRecDepth 100000 in
theorem lifted (os : Os) (started : os.Started) (H : Type) (enc : TypeId × Value → H) :
    ReturnsInHanded {} Tryd.checked os 4 .any (fun w args => (Rows.fnExactParseVectorSpec.pre enc Tryd.prog Tryd.f4 Rows.fnExactParseVectorRow.domain false w args ∧ laidMetH Tryd.prog Rows.fnExactParseVectorRow.laid w) ∧ sizedMet enc Tryd.prog Tryd.f4 (OpenSpec.ofChange Rows.fnExactParseVectorSpec) false w args) (Rows.fnExactParseVectorSpec.post enc Tryd.prog Tryd.f4 false true false false) := by
  refine returns_true_laidS (C := Tryd.checked) own started (by kernel_rfl) Tryd.func4
    (witness_laid (enc := enc) (C := Tryd.checked) (os := os) (laid := Rows.fnExactParseVectorRow.laid) #[.int .i64 0, .int .i64 0, .string ByteArray.empty] 8 (by kernel_rfl) (by kernel_rfl) (by kernel_rfl) (by kernel_rfl) (by kernel_rfl)
      (laidMetH_of_parts (laidMet_laidAll _ (by kernel_rfl) (by kernel_rfl)) (by kernel_rfl)))
    rfl (by kernel_rfl) (by kernel_rfl) (tb := 4) rfl Tryd.underlying4 (fun ds h => by
      match ds, h with
      | [_, _, _], _ => rfl) ?_
  intro W base args ds ps hval hsz hA hlaid hshape
  obtain ⟨v0, v1, v2, rfl⟩ := args3 hsz
  obtain ⟨a0, rfl, w0⟩ := ok_int Tryd.underlying2 (hval 0 2 v0 rfl rfl)
  obtain ⟨a1, rfl, w1⟩ := ok_int Tryd.underlying2 (hval 1 2 v1 rfl rfl)
  obtain ⟨s2, rfl, w2⟩ := ok_str Tryd.underlying9 (hval 2 9 v2 rfl rfl)
  exact (FnOk.below (ys := [_, _, _]) (fnok a0 a1 s2 w0 w1 w2) (glob_of hlaid hshape) ⟨rfl, rfl, rfl, trivial⟩).mono fun e w' ⟨γ, y, he, hv, hb⟩ => ⟨by rw [he, show y = _ from hv], hb⟩
theorem over : Rows.fnExactParseVectorRow.holds Tryd.pinned (OpenSpec.ofChange Rows.fnExactParseVectorSpec) :=
  OpenClaim.holds_of_wide 4 Tryd.f4 rfl rfl rfl rfl rfl rfl rfl ⟨rfl, rfl, rfl, rfl, rfl⟩ rfl rfl rfl rfl rfl (by kernel_rfl) Tryd.func4 (by kernel_rfl)
    (of_decide_eq_true (by kernel_rfl)) (by unfold Func.isWrapper; first | (rw [if_pos (by decide +kernel)]; kernel_rfl) | (rw [if_neg (by decide +kernel)]; exact ⟨rfl, rfl⟩))
    (fun os started H enc _ => lifted os started H enc)
theorem proved : Rows.FnExactParseVectorCardSaid :=
  Claim7.holds_tied_plain_at .later [] [.data, .data, .data, .data, .sentinel, .sentinel, .pinned] true (true, "c0eb6275d645641cc3755c9c66915775ed41870a74b9271f8c22f890581bf23b") true
    over (fun _ h => by cases h) (by kernel_rfl) (fun _ h => by cases h) fnExactParseVector_row_tie rfl ⟨rfl, rfl⟩ (by kernel_rfl) rfl
    (fun f fn hf hfn => by
      obtain rfl : f = 4 := Option.some.inj ((show Tryd.prog.funcNamed "loop.example/g01230/laws.FnExactParseVector" = some 4 by kernel_rfl).symm.trans hf) |>.symm
      obtain rfl : fn = Tryd.f4 := (Option.some.inj (Tryd.func4.symm.trans hfn)).symm
      exact ⟨by kernel_rfl, fun j t ht => by
        have hm := List.mem_of_getElem? (l := Tryd.f4.params.toList) (by simpa using ht)
        have hb := List.all_eq_true.1 (show (Tryd.f4.params.toList.all fun t => !(Tryd.prog.wantsStandIn t)) = true by kernel_rfl) t hm
        have hb' : Tryd.prog.wantsStandIn t = false := by simpa using hb
        exact hb'⟩)
    (by kernel_rfl)
#print axioms proved
end Go.Proofs.YtfdkkcaolajhoaaDoor.fnExactParseVector
namespace Go.Proofs.YtfdkkcaolajhoaaDoor
theorem fnExactParseVectorCard_holds : Rows.FnExactParseVectorCardSaid := fnExactParseVector.proved
end Go.Proofs.YtfdkkcaolajhoaaDoor
