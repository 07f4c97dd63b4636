/-
  No cell of these rows narrows 'for every input' (looked for: loops, veiled, ifaces, maps, wideKeys, modest, calm, conditions, laid).
  DERIVED. THE GIVEN ROWS OF THIS SEAT. 7 by the template 'for every input the law returns true; each argument reads behind the call as it read before'; 0 by the template 'total and deterministic' (their statements: YtacdnmdfoimjcaaTotals.lean).
  GIVEN WITH THE SEED: the statements are not yours to turn. If you find one false, say at which input.
  Laid BY PROGRAM, IN A SANDBOX (cutbox-rows.mjs): the forced cells as the released guide's own fill.sh prints them over the translation 2488100c11305dec… (all of the seat's roots in one cut). By AI agents, Wed Nov 11 2026. No macro, syntax, notation, axiom, sorry.
-/
import Derived.Test.YtacdnmdfoimjcaaChecked
import GoSem.Claim
import GoSem.ClaimJoined
import GoSem.ClaimMapViews
import Derived.JoinedTies
import Derived.KernelRfl
namespace Go.Proofs.Ytacdnmdfoimjcaa
/- THE CELL 'sum', in the pinned program and in every row, IS THE sha256 OF THE DUMP (.gsa) THAT YtacdnmdfoimjcaaProg.lean LOADS. Nothing in Lean hashes anything: it is a label: what it is worth is what the hold of that sum in a sandbox is worth. -/
noncomputable def Try.pinned : Pinned := { name := "ytacdnmdfoimjcaa", sum := "2488100c11305dec5422579f445779325bdec4ada89a4571381b8c50d2a81d2a", checked := Try.checked }
namespace Rows
def none {H : Type} : Left H := { results := [], args := [] }

/-- 'laws.FnExactIsHopf': WHATEVER THE INPUT: true; the input reads as it did. -/
def fnExactIsHopfSpec : ChangeSpec := { name := "fnExactIsHopf", fn := fun _ => fun
  | [d] => { results := [.lit (.bool true)], args := [d] }
  | _ => none }
def fnExactIsHopfRow : OpenClaim := { program := "ytacdnmdfoimjcaa", sum := "2488100c11305dec5422579f445779325bdec4ada89a4571381b8c50d2a81d2a", func := "loop.example/g01230/laws.FnExactIsHopf", spec := "fnExactIsHopf", unfollowed := true, recurses := true, apart := false }
def FnExactIsHopfSaid : Prop := fnExactIsHopfRow.holds Try.pinned (OpenSpec.ofChange fnExactIsHopfSpec)

/-- ITS FALSE NEIGHBOUR: 'it returns false'. Refute it at one input. -/
def fnExactIsHopfWrong : ChangeSpec := { name := "fnExactIsHopf", fn := fun _ => fun
  | [d] => { results := [.lit (.bool false)], args := [d] }
  | _ => none }
def FnExactIsHopfWrongFalsely : Prop := fnExactIsHopfRow.holds Try.pinned (OpenSpec.ofChange fnExactIsHopfWrong)

/-- 'laws.FnExactAxiomThatFails': WHATEVER THE INPUT: true; the input reads as it did. -/
def fnExactAxiomThatFailsSpec : ChangeSpec := { name := "fnExactAxiomThatFails", fn := fun _ => fun
  | [d] => { results := [.lit (.bool true)], args := [d] }
  | _ => none }
def fnExactAxiomThatFailsRow : OpenClaim := { program := "ytacdnmdfoimjcaa", sum := "2488100c11305dec5422579f445779325bdec4ada89a4571381b8c50d2a81d2a", func := "loop.example/g01230/laws.FnExactAxiomThatFails", spec := "fnExactAxiomThatFails", unfollowed := true, recurses := true, apart := false }
def FnExactAxiomThatFailsSaid : Prop := fnExactAxiomThatFailsRow.holds Try.pinned (OpenSpec.ofChange fnExactAxiomThatFailsSpec)

/-- ITS FALSE NEIGHBOUR: 'it returns false'. Refute it at one input. -/
def fnExactAxiomThatFailsWrong : ChangeSpec := { name := "fnExactAxiomThatFails", fn := fun _ => fun
  | [d] => { results := [.lit (.bool false)], args := [d] }
  | _ => none }
def FnExactAxiomThatFailsWrongFalsely : Prop := fnExactAxiomThatFailsRow.holds Try.pinned (OpenSpec.ofChange fnExactAxiomThatFailsWrong)

/-- 'laws.FnExactCounitOf': WHATEVER THE INPUT: true; the input reads as it did. -/
def fnExactCounitOfSpec : ChangeSpec := { name := "fnExactCounitOf", fn := fun _ => fun
  | [d1, d2] => { results := [.lit (.bool true)], args := [d1, d2] }
  | _ => none }
def fnExactCounitOfRow : OpenClaim := { program := "ytacdnmdfoimjcaa", sum := "2488100c11305dec5422579f445779325bdec4ada89a4571381b8c50d2a81d2a", func := "loop.example/g01230/laws.FnExactCounitOf", spec := "fnExactCounitOf", unfollowed := true, recurses := true, apart := false }
def FnExactCounitOfSaid : Prop := fnExactCounitOfRow.holds Try.pinned (OpenSpec.ofChange fnExactCounitOfSpec)

/-- ITS FALSE NEIGHBOUR: 'it returns false'. Refute it at one input. -/
def fnExactCounitOfWrong : ChangeSpec := { name := "fnExactCounitOf", fn := fun _ => fun
  | [d1, d2] => { results := [.lit (.bool false)], args := [d1, d2] }
  | _ => none }
def FnExactCounitOfWrongFalsely : Prop := fnExactCounitOfRow.holds Try.pinned (OpenSpec.ofChange fnExactCounitOfWrong)

/-- 'laws.FnExactIsLeftIntegral': WHATEVER THE INPUT: true; the input reads as it did. -/
def fnExactIsLeftIntegralSpec : ChangeSpec := { name := "fnExactIsLeftIntegral", fn := fun _ => fun
  | [d1, d2] => { results := [.lit (.bool true)], args := [d1, d2] }
  | _ => none }
def fnExactIsLeftIntegralRow : OpenClaim := { program := "ytacdnmdfoimjcaa", sum := "2488100c11305dec5422579f445779325bdec4ada89a4571381b8c50d2a81d2a", func := "loop.example/g01230/laws.FnExactIsLeftIntegral", spec := "fnExactIsLeftIntegral", unfollowed := true, recurses := true, apart := false }
def FnExactIsLeftIntegralSaid : Prop := fnExactIsLeftIntegralRow.holds Try.pinned (OpenSpec.ofChange fnExactIsLeftIntegralSpec)

/-- ITS FALSE NEIGHBOUR: 'it returns false'. Refute it at one input. -/
def fnExactIsLeftIntegralWrong : ChangeSpec := { name := "fnExactIsLeftIntegral", fn := fun _ => fun
  | [d1, d2] => { results := [.lit (.bool false)], args := [d1, d2] }
  | _ => none }
def FnExactIsLeftIntegralWrongFalsely : Prop := fnExactIsLeftIntegralRow.holds Try.pinned (OpenSpec.ofChange fnExactIsLeftIntegralWrong)

/-- 'laws.FnExactCoproductOf': WHATEVER THE INPUT: true; the input reads as it did. -/
def fnExactCoproductOfSpec : ChangeSpec := { name := "fnExactCoproductOf", fn := fun _ => fun
  | [d1, d2] => { results := [.lit (.bool true)], args := [d1, d2] }
  | _ => none }
def fnExactCoproductOfRow : OpenClaim := { program := "ytacdnmdfoimjcaa", sum := "2488100c11305dec5422579f445779325bdec4ada89a4571381b8c50d2a81d2a", func := "loop.example/g01230/laws.FnExactCoproductOf", spec := "fnExactCoproductOf", unfollowed := true, recurses := true, apart := false }
def FnExactCoproductOfSaid : Prop := fnExactCoproductOfRow.holds Try.pinned (OpenSpec.ofChange fnExactCoproductOfSpec)

/-- ITS FALSE NEIGHBOUR: 'it returns false'. Refute it at one input. -/
def fnExactCoproductOfWrong : ChangeSpec := { name := "fnExactCoproductOf", fn := fun _ => fun
  | [d1, d2] => { results := [.lit (.bool false)], args := [d1, d2] }
  | _ => none }
def FnExactCoproductOfWrongFalsely : Prop := fnExactCoproductOfRow.holds Try.pinned (OpenSpec.ofChange fnExactCoproductOfWrong)

/-- 'laws.FnExactAntipodeOf': WHATEVER THE INPUT: true; the input reads as it did. -/
def fnExactAntipodeOfSpec : ChangeSpec := { name := "fnExactAntipodeOf", fn := fun _ => fun
  | [d1, d2] => { results := [.lit (.bool true)], args := [d1, d2] }
  | _ => none }
def fnExactAntipodeOfRow : OpenClaim := { program := "ytacdnmdfoimjcaa", sum := "2488100c11305dec5422579f445779325bdec4ada89a4571381b8c50d2a81d2a", func := "loop.example/g01230/laws.FnExactAntipodeOf", spec := "fnExactAntipodeOf", unfollowed := true, recurses := true, apart := false }
def FnExactAntipodeOfSaid : Prop := fnExactAntipodeOfRow.holds Try.pinned (OpenSpec.ofChange fnExactAntipodeOfSpec)

/-- ITS FALSE NEIGHBOUR: 'it returns false'. Refute it at one input. -/
def fnExactAntipodeOfWrong : ChangeSpec := { name := "fnExactAntipodeOf", fn := fun _ => fun
  | [d1, d2] => { results := [.lit (.bool false)], args := [d1, d2] }
  | _ => none }
def FnExactAntipodeOfWrongFalsely : Prop := fnExactAntipodeOfRow.holds Try.pinned (OpenSpec.ofChange fnExactAntipodeOfWrong)

/-- 'laws.FnExactRegularComodule': WHATEVER THE INPUT: true; the input reads as it did. -/
def fnExactRegularComoduleSpec : ChangeSpec := { name := "fnExactRegularComodule", fn := fun _ => fun
  | [d] => { results := [.lit (.bool true)], args := [d] }
  | _ => none }
def fnExactRegularComoduleRow : OpenClaim := { program := "ytacdnmdfoimjcaa", sum := "2488100c11305dec5422579f445779325bdec4ada89a4571381b8c50d2a81d2a", func := "loop.example/g01230/laws.FnExactRegularComodule", spec := "fnExactRegularComodule", unfollowed := true, recurses := true, apart := false }
def FnExactRegularComoduleSaid : Prop := fnExactRegularComoduleRow.holds Try.pinned (OpenSpec.ofChange fnExactRegularComoduleSpec)

/-- ITS FALSE NEIGHBOUR: 'it returns false'. Refute it at one input. -/
def fnExactRegularComoduleWrong : ChangeSpec := { name := "fnExactRegularComodule", fn := fun _ => fun
  | [d] => { results := [.lit (.bool false)], args := [d] }
  | _ => none }
def FnExactRegularComoduleWrongFalsely : Prop := fnExactRegularComoduleRow.holds Try.pinned (OpenSpec.ofChange fnExactRegularComoduleWrong)

/- THE SECOND FORM. 'bulk': how many values and letters a reading holds, each counted each time it is reached (what is shared counts as often as it is met; a slice's spare places count too). A statement '..UptoSaid' is the law's where the arguments, and the package variables that the reading takes, are together of bulk at most 1048576: NARROWER than '..Said'. Prove '..Said' where nothing that the law and all that it calls make is longer than what came in: it says more and counts as full. Else prove '..UptoSaid'. A law counts once. -/
mutual
def uptoBulk {H : Type} : DataW H → Nat
  | .lit (.string bytes) => bytes.length + 1
  | .lit _ => 1
  | .nil => 1
  | .ptr d => uptoBulk d + 1
  | .slice elems spare => uptoBulkAll elems + uptoBulkAll spare + 1
  | .agg parts => uptoBulkAll parts + 1
  | .iface _ d => uptoBulk d + 1
  | .map entries => uptoBulkEntries entries + 1
  | .held _ => 1
def uptoBulkAll {H : Type} : List (DataW H) → Nat
  | [] => 0
  | d :: r => uptoBulk d + uptoBulkAll r
def uptoBulkEntries {H : Type} : List (Lit × DataW H) → Nat
  | [] => 0
  | x :: r => uptoBulkEntry x + uptoBulkEntries r
def uptoBulkEntry {H : Type} : Lit × DataW H → Nat
  | (.string bytes, d) => bytes.length + uptoBulk d + 1
  | (_, d) => uptoBulk d + 1
 end
def uptoSmall : (H : Type) → List (DataW H) → Bool := fun _ ds => decide (uptoBulkAll ds ≤ 1048576)
def OpenSpec.upto (s : _root_.Go.ChangeSpec) : _root_.Go.OpenSpec := { _root_.Go.OpenSpec.ofChange s with cond := some uptoSmall }

/-- 'laws.FnExactIsHopf', WHERE WHAT IT READS IS OF BULK AT MOST 1048576: true; the input reads as it did. -/
def fnExactIsHopfUptoRow : OpenClaim := { program := "ytacdnmdfoimjcaa", sum := "2488100c11305dec5422579f445779325bdec4ada89a4571381b8c50d2a81d2a", func := "loop.example/g01230/laws.FnExactIsHopf", spec := "fnExactIsHopf", unfollowed := true, recurses := true, apart := false, narrowed := true }
def FnExactIsHopfUptoSaid : Prop := fnExactIsHopfUptoRow.holds Try.pinned (OpenSpec.upto fnExactIsHopfSpec)

/-- 'laws.FnExactAxiomThatFails', WHERE WHAT IT READS IS OF BULK AT MOST 1048576: true; the input reads as it did. -/
def fnExactAxiomThatFailsUptoRow : OpenClaim := { program := "ytacdnmdfoimjcaa", sum := "2488100c11305dec5422579f445779325bdec4ada89a4571381b8c50d2a81d2a", func := "loop.example/g01230/laws.FnExactAxiomThatFails", spec := "fnExactAxiomThatFails", unfollowed := true, recurses := true, apart := false, narrowed := true }
def FnExactAxiomThatFailsUptoSaid : Prop := fnExactAxiomThatFailsUptoRow.holds Try.pinned (OpenSpec.upto fnExactAxiomThatFailsSpec)

/-- 'laws.FnExactCounitOf', WHERE WHAT IT READS IS OF BULK AT MOST 1048576: true; the input reads as it did. -/
def fnExactCounitOfUptoRow : OpenClaim := { program := "ytacdnmdfoimjcaa", sum := "2488100c11305dec5422579f445779325bdec4ada89a4571381b8c50d2a81d2a", func := "loop.example/g01230/laws.FnExactCounitOf", spec := "fnExactCounitOf", unfollowed := true, recurses := true, apart := false, narrowed := true }
def FnExactCounitOfUptoSaid : Prop := fnExactCounitOfUptoRow.holds Try.pinned (OpenSpec.upto fnExactCounitOfSpec)

/-- 'laws.FnExactIsLeftIntegral', WHERE WHAT IT READS IS OF BULK AT MOST 1048576: true; the input reads as it did. -/
def fnExactIsLeftIntegralUptoRow : OpenClaim := { program := "ytacdnmdfoimjcaa", sum := "2488100c11305dec5422579f445779325bdec4ada89a4571381b8c50d2a81d2a", func := "loop.example/g01230/laws.FnExactIsLeftIntegral", spec := "fnExactIsLeftIntegral", unfollowed := true, recurses := true, apart := false, narrowed := true }
def FnExactIsLeftIntegralUptoSaid : Prop := fnExactIsLeftIntegralUptoRow.holds Try.pinned (OpenSpec.upto fnExactIsLeftIntegralSpec)

/-- 'laws.FnExactCoproductOf', WHERE WHAT IT READS IS OF BULK AT MOST 1048576: true; the input reads as it did. -/
def fnExactCoproductOfUptoRow : OpenClaim := { program := "ytacdnmdfoimjcaa", sum := "2488100c11305dec5422579f445779325bdec4ada89a4571381b8c50d2a81d2a", func := "loop.example/g01230/laws.FnExactCoproductOf", spec := "fnExactCoproductOf", unfollowed := true, recurses := true, apart := false, narrowed := true }
def FnExactCoproductOfUptoSaid : Prop := fnExactCoproductOfUptoRow.holds Try.pinned (OpenSpec.upto fnExactCoproductOfSpec)

/-- 'laws.FnExactAntipodeOf', WHERE WHAT IT READS IS OF BULK AT MOST 1048576: true; the input reads as it did. -/
def fnExactAntipodeOfUptoRow : OpenClaim := { program := "ytacdnmdfoimjcaa", sum := "2488100c11305dec5422579f445779325bdec4ada89a4571381b8c50d2a81d2a", func := "loop.example/g01230/laws.FnExactAntipodeOf", spec := "fnExactAntipodeOf", unfollowed := true, recurses := true, apart := false, narrowed := true }
def FnExactAntipodeOfUptoSaid : Prop := fnExactAntipodeOfUptoRow.holds Try.pinned (OpenSpec.upto fnExactAntipodeOfSpec)

/-- 'laws.FnExactRegularComodule', WHERE WHAT IT READS IS OF BULK AT MOST 1048576: true; the input reads as it did. -/
def fnExactRegularComoduleUptoRow : OpenClaim := { program := "ytacdnmdfoimjcaa", sum := "2488100c11305dec5422579f445779325bdec4ada89a4571381b8c50d2a81d2a", func := "loop.example/g01230/laws.FnExactRegularComodule", spec := "fnExactRegularComodule", unfollowed := true, recurses := true, apart := false, narrowed := true }
def FnExactRegularComoduleUptoSaid : Prop := fnExactRegularComoduleUptoRow.holds Try.pinned (OpenSpec.upto fnExactRegularComoduleSpec)

end Rows
end Go.Proofs.Ytacdnmdfoimjcaa
