/- FnExactFunctionsHopf: the given row. The law returns true for all arguments. No condition. -/
import Derived.Test.YtgfmgfgjpobndaaRows
import Derived.Test.YtgfmgfgjpobndaaHL3
import Derived.Test.YtgfmgfgjpobndaaHZ
import Derived.Test.YtgfmgfgjpobndaaHyArg
namespace Go.Proofs.Ytgfmgfgjpobndaa.fnExactFunctionsHopf
set_option linter.unusedVariables false
set_option linter.unusedSimpArgs false
open Go Go.Proofs.Ytgfmgfgjpobndaa.Hy Go.ChangeShapes Go.WideShapes Go.ChangeAt Go.RowKit
set_option linter.unusedVariables false

theorem fnok (a0 : Int) (m1 : Nat) (bn1 : Nat) (bq1 : Nat) (of1 : Nat → Nat) (ln1 : Nat → Nat) (bw1 : Nat) (g1 : Nat → Int) (h0 : IntKind.i64.has a0) (h1 : m1 ≤ maxLen) (h2 : ∀ i, ln1 i ≤ maxLen) (h3 : ∀ z, IntKind.i64.has (g1 z)) : FnOk Try.prog 3 [.int .i64 a0, .slice false 0 0 m1 .unk 1] [⟨false, .hdr 1 bn1 bq1 of1 ln1 none⟩, ⟨false, .flat bw1 (.ints .i64 g1)⟩] (.bool true) [⟨false, .hdr 1 bn1 bq1 of1 ln1 none⟩, ⟨false, .flat bw1 (.ints .i64 g1)⟩] := by
  obtain ⟨v, sh', h1, h2⟩ := fn_ok (H.E39_ok 3000000) (kp := H.laws_FnExactFunctionsHopf_suh.kp) (N := 3000000) Try.func3 (c := H.laws_FnExactFunctionsHopf_suh.bd) (by kernel_rfl) ((H.laws_FnExactFunctionsHopf_suh.eq 3000000 (fun v h => some (v, h)) a0 m1 bn1 bq1 of1 ln1 bw1 g1).trans (H.fnExactFunctionsHopf_law _ a0 m1 bn1 bq1 of1 ln1 bw1 g1 h0 h1 h2 h3))
  cases h1
  exact h2

theorem own : ownKnob Try.prog.godebug = none := by kernel_rfl
set_option maxRecDepth 100000 in
theorem lifted (os : Os) (started : os.Started) (H : Type) (enc : TypeId × Value → H) :
    ReturnsInHanded {} Try.checked os 3 .any (Rows.fnExactFunctionsHopfSpec.pre6 enc Try.prog Try.f3 Rows.fnExactFunctionsHopfRow.domain false) (Rows.fnExactFunctionsHopfSpec.post enc Try.prog Try.f3 false true false false) := by
  refine returns_true (C := Try.checked) own started (by kernel_rfl) Try.func3
    (witness_of (enc := enc) (C := Try.checked) (f := 3) (fn := Try.f3) #[.int .i64 0, .slice none 0 0] 8 (by kernel_rfl) (by kernel_rfl) (by kernel_rfl) Try.func3 (by kernel_rfl) (by kernel_rfl) (by kernel_rfl) (by kernel_rfl)
    (fun w b j t v hj hv => by
      match j, hj, hv with
      | 0, hj, hv =>
        obtain rfl : (2 : Nat) = t := Option.some.inj hj
        obtain rfl : (.int .i64 0 : Value) = v := Option.some.inj hv
        exact okWide_int Try.underlying2
      | 1, hj, hv =>
        obtain rfl : (22 : Nat) = t := Option.some.inj hj
        obtain rfl : (.slice none 0 0 : Value) = v := Option.some.inj hv
        exact okWide_nil Try.underlying22
      | j + 2, hj, hv => simp at hv) (by kernel_rfl))
    rfl (by kernel_rfl) (by kernel_rfl) (tb := 4) rfl Try.underlying4 (fun ds h => by
      match ds, h with
      | [_, _], _ => rfl) ?_
  intro W base args ds ps hval hsz hA
  obtain ⟨v0, v1, rfl⟩ := args2 hsz
  obtain ⟨a0, rfl, w0⟩ := ok_int Try.underlying2 (hval 0 2 v0 rfl rfl)
  obtain ⟨d1, q1, h1⟩ := trodAll_at (i := 1) (t := 22) (v := v1) hA rfl rfl
  obtain ⟨m1, of1, ln1, g1, L1, M1, hm1, hln1, hg1, hM1, hL1, hs1⟩ := arg_table (k := .i64) Try.underlying22 Try.underlying39 (by kernel_rfl) (by kernel_rfl) (hval 1 22 v1 rfl rfl) h1 (fun _ => rfl)

  have hr : HRel (fun i => ([L1, M1] : List Hy.Loc)[i]?) [⟨false, .hdr 1 0 (m1 * RS) of1 ln1 none⟩, ⟨false, .flat 0 (.ints .i64 g1)⟩] W := hrel_ro rfl rfl (fun b x hb => by
    match b, hb with
    | 0, hb =>
      obtain rfl := Option.some.inj hb
      exact ⟨_, rfl, hL1 _ 1 _ rfl⟩
    | 1, hb =>
      obtain rfl := Option.some.inj hb
      exact ⟨_, rfl, hM1 _ _⟩
    | b + 2, hb => simp at hb)
  exact (FnOk.below' (ys := [_, _]) (fnok a0 m1 0 (m1 * RS) of1 ln1 0 g1 w0 hm1 hln1 hg1) rfl hr ⟨rfl, hs1 _ 0 rfl, trivial⟩).mono fun e w' ⟨γ, y, he, hv, hb⟩ => ⟨by rw [he, show y = _ from hv], hb⟩

theorem over : Rows.fnExactFunctionsHopfRow.holds Try.pinned (OpenSpec.ofChange Rows.fnExactFunctionsHopfSpec) :=
  OpenClaim.holds_of_wide 3 Try.f3 rfl rfl rfl rfl rfl rfl rfl ⟨rfl, rfl, rfl, rfl, rfl⟩ rfl rfl rfl rfl rfl (by kernel_rfl) Try.func3 (by kernel_rfl)
    (of_decide_eq_true (by kernel_rfl)) (by unfold Func.isWrapper; first | (rw [if_pos (by decide +kernel)]; kernel_rfl) | (rw [if_neg (by decide +kernel)]; exact ⟨rfl, rfl⟩))
    (fun os started H enc _ => lifted os started H enc)
theorem proved : Rows.FnExactFunctionsHopfSaid := over
#print axioms proved
end Go.Proofs.Ytgfmgfgjpobndaa.fnExactFunctionsHopf
namespace Go.Proofs.Ytgfmgfgjpobndaa
/-- The row, under a short name, for the claim. -/
theorem fnExactFunctionsHopf_holds : Rows.FnExactFunctionsHopfSaid := fnExactFunctionsHopf.proved
end Go.Proofs.Ytgfmgfgjpobndaa
