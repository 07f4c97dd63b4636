/-
  DERIVED. GIVEN WITH THE SEED: THE CARDS: each row of YtcdogefmbenplaaDoorRows.lean that lists a variable, with what it lists TIED to the program's text (the seventh form; the later family's looks); each row that meets fmt, with fmt's text TOLD by the authors' own Lean function (tested against real Go, not proved from fmt's source: count such statements apart). THE CARD IS WHAT COUNTS. Prove the row's statement (the work); the ties are given (YtcdogefmbenplaaDoorTie.lean); close each card by the builder's one call (the guide's Derived/Test/ToyasCard.lean, 'card_holds'). Laid BY PROGRAM, IN A SANDBOX (cutbox-door.mjs). By AI agents, Wed Nov 11 2026. No macro, syntax, notation, axiom, sorry.
-/
import Derived.Test.YtcdogefmbenplaaDoorRows
import GoSem.ClaimSeven
namespace Go.Proofs.YtcdogefmbenplaaDoor
namespace Rows

/-- THE TIED CARD OF 'laws.FnExactKnownNames'. -/
def fnExactKnownNamesCard : Claim7 := { stood := { row := fnExactKnownNamesRow, standIns := [], harness := (true, "5e0b3fa6bba86a257b1a4723b53cee273ee95f74bb16eb160917d2e03977b8fc"), looks := false }, kinds := [], alts := [], laidByText := true, laidKinds := [.listed, .data], laidTests := true, laidLooks := .later }
def FnExactKnownNamesCardSaid : Prop := Claim7.holds Tryd.pinned (.plain (OpenSpec.ofChange fnExactKnownNamesSpec)) fnExactKnownNamesCard

/-- THE SECOND FORM's CARD OF 'laws.FnExactKnownNames'. -/
def fnExactKnownNamesUptoCard : Claim7 := { stood := { row := fnExactKnownNamesUptoRow, standIns := [], harness := (true, "5e0b3fa6bba86a257b1a4723b53cee273ee95f74bb16eb160917d2e03977b8fc"), looks := false }, kinds := [], alts := [], laidByText := true, laidKinds := [.listed, .data], laidTests := true, laidLooks := .later }
def FnExactKnownNamesUptoCardSaid : Prop := Claim7.holds Tryd.pinned (.plain (OpenSpec.upto fnExactKnownNamesSpec)) fnExactKnownNamesUptoCard
end Rows
end Go.Proofs.YtcdogefmbenplaaDoor
