/-
  DERIVED. GIVEN WITH THE SEED: THE CARDS: each row of YtfdkkcaolajhoaaDoorRows.lean that lists a variable, with what it lists TIED to the program's text (the seventh form; the later family's looks); each row that meets fmt, with fmt's text TOLD by the authors' own Lean function (tested against real Go, not proved from fmt's source: count such statements apart). THE CARD IS WHAT COUNTS. Prove the row's statement (the work); the ties are given (YtfdkkcaolajhoaaDoorTie.lean); close each card by the builder's one call (the guide's Derived/Test/ToyasCard.lean, 'card_holds'). Laid BY PROGRAM, IN A SANDBOX (cutbox-door.mjs). By AI agents, Wed Nov 11 2026. No macro, syntax, notation, axiom, sorry.
-/
import Derived.Test.YtfdkkcaolajhoaaDoorRows
import GoSem.ClaimSeven
namespace Go.Proofs.YtfdkkcaolajhoaaDoor
namespace Rows

/-- THE TIED CARD OF 'laws.FnExactVectorText'. -/
def fnExactVectorTextCard : Claim7 := { stood := { row := fnExactVectorTextRow, standIns := [], harness := (true, "c0eb6275d645641cc3755c9c66915775ed41870a74b9271f8c22f890581bf23b"), looks := true }, kinds := [], alts := [], laidByText := true, laidKinds := [.data, .data, .data], laidTests := true, laidLooks := .later }
def FnExactVectorTextCardSaid : Prop := Claim7.holds Tryd.pinned (.plain (OpenSpec.ofChange fnExactVectorTextSpec)) fnExactVectorTextCard

/-- THE TIED CARD OF 'laws.FnExactParseVector'. -/
def fnExactParseVectorCard : Claim7 := { stood := { row := fnExactParseVectorRow, standIns := [], harness := (true, "c0eb6275d645641cc3755c9c66915775ed41870a74b9271f8c22f890581bf23b"), looks := true }, kinds := [], alts := [], laidByText := true, laidKinds := [.data, .data, .data, .data, .sentinel, .sentinel, .pinned], laidTests := true, laidLooks := .later }
def FnExactParseVectorCardSaid : Prop := Claim7.holds Tryd.pinned (.plain (OpenSpec.ofChange fnExactParseVectorSpec)) fnExactParseVectorCard

/-- THE SECOND FORM's CARD OF 'laws.FnExactVectorText'. -/
def fnExactVectorTextUptoCard : Claim7 := { stood := { row := fnExactVectorTextUptoRow, standIns := [], harness := (true, "c0eb6275d645641cc3755c9c66915775ed41870a74b9271f8c22f890581bf23b"), looks := true }, kinds := [], alts := [], laidByText := true, laidKinds := [.data, .data, .data], laidTests := true, laidLooks := .later }
def FnExactVectorTextUptoCardSaid : Prop := Claim7.holds Tryd.pinned (.plain (OpenSpec.upto fnExactVectorTextSpec)) fnExactVectorTextUptoCard

/-- THE SECOND FORM's CARD OF 'laws.FnExactParseVector'. -/
def fnExactParseVectorUptoCard : Claim7 := { stood := { row := fnExactParseVectorUptoRow, standIns := [], harness := (true, "c0eb6275d645641cc3755c9c66915775ed41870a74b9271f8c22f890581bf23b"), looks := true }, kinds := [], alts := [], laidByText := true, laidKinds := [.data, .data, .data, .data, .sentinel, .sentinel, .pinned], laidTests := true, laidLooks := .later }
def FnExactParseVectorUptoCardSaid : Prop := Claim7.holds Tryd.pinned (.plain (OpenSpec.upto fnExactParseVectorSpec)) fnExactParseVectorUptoCard
end Rows
end Go.Proofs.YtfdkkcaolajhoaaDoor
