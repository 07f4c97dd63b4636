/-
  No cell of these rows narrows 'for every input' (looked for: loops, veiled, ifaces, maps, wideKeys, modest, calm, conditions, laid).
  DERIVED. THE GIVEN ROWS OF THIS SEAT. 6 by the template 'for every input the law returns true; each argument reads behind the call as it read before'; 0 by the template 'total and deterministic' (their statements: YtdlhegdigcdffaaTotals.lean).
  GIVEN WITH THE SEED: the statements are not yours to turn. If you find one false, say at which input.
  Laid BY PROGRAM, IN A SANDBOX (cutbox-rows.mjs): the forced cells as the released guide's own fill.sh prints them over the translation 2fd5398ed74dccd8… (all of the seat's roots in one cut). By AI agents, Wed Nov 11 2026. No macro, syntax, notation, axiom, sorry.
-/
import Derived.Test.YtdlhegdigcdffaaChecked
import GoSem.Claim
import GoSem.ClaimJoined
import GoSem.ClaimMapViews
import Derived.JoinedTies
import Derived.KernelRfl
namespace Go.Proofs.Ytdlhegdigcdffaa
/- THE CELL 'sum', in the pinned program and in every row, IS THE sha256 OF THE DUMP (.gsa) THAT YtdlhegdigcdffaaProg.lean LOADS. Nothing in Lean hashes anything: it is a label: what it is worth is what the hold of that sum in a sandbox is worth. -/
noncomputable def Try.pinned : Pinned := { name := "ytdlhegdigcdffaa", sum := "2fd5398ed74dccd8cfa9d3d4e7d8646dcd7d84988b6ecf13a070e1ef4948ef2c", checked := Try.checked }
namespace Rows
def none {H : Type} : Left H := { results := [], args := [] }

/-- 'laws.FnExactConstants': WHATEVER THE INPUT: true; the input reads as it did. -/
def fnExactConstantsSpec : ChangeSpec := { name := "fnExactConstants", fn := fun _ => fun
  | [] => { results := [.lit (.bool true)], args := [] }
  | _ => none }
def fnExactConstantsRow : OpenClaim := { program := "ytdlhegdigcdffaa", sum := "2fd5398ed74dccd8cfa9d3d4e7d8646dcd7d84988b6ecf13a070e1ef4948ef2c", func := "loop.example/g01230/laws.FnExactConstants", spec := "fnExactConstants", apart := false }
def FnExactConstantsSaid : Prop := fnExactConstantsRow.holds Try.pinned (OpenSpec.ofChange fnExactConstantsSpec)

/-- ITS FALSE NEIGHBOUR: 'it returns false'. Refute it at one input. -/
def fnExactConstantsWrong : ChangeSpec := { name := "fnExactConstants", fn := fun _ => fun
  | [] => { results := [.lit (.bool false)], args := [] }
  | _ => none }
def FnExactConstantsWrongFalsely : Prop := fnExactConstantsRow.holds Try.pinned (OpenSpec.ofChange fnExactConstantsWrong)

/-- 'laws.FnExactIsPrime': WHATEVER THE INPUT: true; the input reads as it did. -/
def fnExactIsPrimeSpec : ChangeSpec := { name := "fnExactIsPrime", fn := fun _ => fun
  | [d] => { results := [.lit (.bool true)], args := [d] }
  | _ => none }
def fnExactIsPrimeRow : OpenClaim := { program := "ytdlhegdigcdffaa", sum := "2fd5398ed74dccd8cfa9d3d4e7d8646dcd7d84988b6ecf13a070e1ef4948ef2c", func := "loop.example/g01230/laws.FnExactIsPrime", spec := "fnExactIsPrime", apart := false }
def FnExactIsPrimeSaid : Prop := fnExactIsPrimeRow.holds Try.pinned (OpenSpec.ofChange fnExactIsPrimeSpec)

/-- ITS FALSE NEIGHBOUR: 'it returns false'. Refute it at one input. -/
def fnExactIsPrimeWrong : ChangeSpec := { name := "fnExactIsPrime", fn := fun _ => fun
  | [d] => { results := [.lit (.bool false)], args := [d] }
  | _ => none }
def FnExactIsPrimeWrongFalsely : Prop := fnExactIsPrimeRow.holds Try.pinned (OpenSpec.ofChange fnExactIsPrimeWrong)

/-- 'laws.FnExactIsVector': WHATEVER THE INPUT: true; the input reads as it did. -/
def fnExactIsVectorSpec : ChangeSpec := { name := "fnExactIsVector", fn := fun _ => fun
  | [d1, d2, d3] => { results := [.lit (.bool true)], args := [d1, d2, d3] }
  | _ => none }
def fnExactIsVectorRow : OpenClaim := { program := "ytdlhegdigcdffaa", sum := "2fd5398ed74dccd8cfa9d3d4e7d8646dcd7d84988b6ecf13a070e1ef4948ef2c", func := "loop.example/g01230/laws.FnExactIsVector", spec := "fnExactIsVector", apart := false }
def FnExactIsVectorSaid : Prop := fnExactIsVectorRow.holds Try.pinned (OpenSpec.ofChange fnExactIsVectorSpec)

/-- ITS FALSE NEIGHBOUR: 'it returns false'. Refute it at one input. -/
def fnExactIsVectorWrong : ChangeSpec := { name := "fnExactIsVector", fn := fun _ => fun
  | [d1, d2, d3] => { results := [.lit (.bool false)], args := [d1, d2, d3] }
  | _ => none }
def FnExactIsVectorWrongFalsely : Prop := fnExactIsVectorRow.holds Try.pinned (OpenSpec.ofChange fnExactIsVectorWrong)

/-- 'laws.FnExactCyclicTable': WHATEVER THE INPUT: true; the input reads as it did. -/
def fnExactCyclicTableSpec : ChangeSpec := { name := "fnExactCyclicTable", fn := fun _ => fun
  | [d] => { results := [.lit (.bool true)], args := [d] }
  | _ => none }
def fnExactCyclicTableRow : OpenClaim := { program := "ytdlhegdigcdffaa", sum := "2fd5398ed74dccd8cfa9d3d4e7d8646dcd7d84988b6ecf13a070e1ef4948ef2c", func := "loop.example/g01230/laws.FnExactCyclicTable", spec := "fnExactCyclicTable", unfollowed := true, recurses := true, apart := false }
def FnExactCyclicTableSaid : Prop := fnExactCyclicTableRow.holds Try.pinned (OpenSpec.ofChange fnExactCyclicTableSpec)

/-- ITS FALSE NEIGHBOUR: 'it returns false'. Refute it at one input. -/
def fnExactCyclicTableWrong : ChangeSpec := { name := "fnExactCyclicTable", fn := fun _ => fun
  | [d] => { results := [.lit (.bool false)], args := [d] }
  | _ => none }
def FnExactCyclicTableWrongFalsely : Prop := fnExactCyclicTableRow.holds Try.pinned (OpenSpec.ofChange fnExactCyclicTableWrong)

/-- 'laws.FnExactDihedralTable': WHATEVER THE INPUT: true; the input reads as it did. -/
def fnExactDihedralTableSpec : ChangeSpec := { name := "fnExactDihedralTable", fn := fun _ => fun
  | [d] => { results := [.lit (.bool true)], args := [d] }
  | _ => none }
def fnExactDihedralTableRow : OpenClaim := { program := "ytdlhegdigcdffaa", sum := "2fd5398ed74dccd8cfa9d3d4e7d8646dcd7d84988b6ecf13a070e1ef4948ef2c", func := "loop.example/g01230/laws.FnExactDihedralTable", spec := "fnExactDihedralTable", unfollowed := true, recurses := true, apart := false }
def FnExactDihedralTableSaid : Prop := fnExactDihedralTableRow.holds Try.pinned (OpenSpec.ofChange fnExactDihedralTableSpec)

/-- ITS FALSE NEIGHBOUR: 'it returns false'. Refute it at one input. -/
def fnExactDihedralTableWrong : ChangeSpec := { name := "fnExactDihedralTable", fn := fun _ => fun
  | [d] => { results := [.lit (.bool false)], args := [d] }
  | _ => none }
def FnExactDihedralTableWrongFalsely : Prop := fnExactDihedralTableRow.holds Try.pinned (OpenSpec.ofChange fnExactDihedralTableWrong)

/-- 'laws.FnExactQuaternionTable': WHATEVER THE INPUT: true; the input reads as it did. -/
def fnExactQuaternionTableSpec : ChangeSpec := { name := "fnExactQuaternionTable", fn := fun _ => fun
  | [] => { results := [.lit (.bool true)], args := [] }
  | _ => none }
def fnExactQuaternionTableRow : OpenClaim := { program := "ytdlhegdigcdffaa", sum := "2fd5398ed74dccd8cfa9d3d4e7d8646dcd7d84988b6ecf13a070e1ef4948ef2c", func := "loop.example/g01230/laws.FnExactQuaternionTable", spec := "fnExactQuaternionTable", unfollowed := true, recurses := true, apart := false }
def FnExactQuaternionTableSaid : Prop := fnExactQuaternionTableRow.holds Try.pinned (OpenSpec.ofChange fnExactQuaternionTableSpec)

/-- ITS FALSE NEIGHBOUR: 'it returns false'. Refute it at one input. -/
def fnExactQuaternionTableWrong : ChangeSpec := { name := "fnExactQuaternionTable", fn := fun _ => fun
  | [] => { results := [.lit (.bool false)], args := [] }
  | _ => none }
def FnExactQuaternionTableWrongFalsely : Prop := fnExactQuaternionTableRow.holds Try.pinned (OpenSpec.ofChange fnExactQuaternionTableWrong)

/- THE SECOND FORM. 'bulk': how many values and letters a reading holds, each counted each time it is reached (what is shared counts as often as it is met; a slice's spare places count too). A statement '..UptoSaid' is the law's where the arguments, and the package variables that the reading takes, are together of bulk at most 1048576: NARROWER than '..Said'. Prove '..Said' where nothing that the law and all that it calls make is longer than what came in: it says more and counts as full. Else prove '..UptoSaid'. A law counts once. -/
mutual
def uptoBulk {H : Type} : DataW H → Nat
  | .lit (.string bytes) => bytes.length + 1
  | .lit _ => 1
  | .nil => 1
  | .ptr d => uptoBulk d + 1
  | .slice elems spare => uptoBulkAll elems + uptoBulkAll spare + 1
  | .agg parts => uptoBulkAll parts + 1
  | .iface _ d => uptoBulk d + 1
  | .map entries => uptoBulkEntries entries + 1
  | .held _ => 1
def uptoBulkAll {H : Type} : List (DataW H) → Nat
  | [] => 0
  | d :: r => uptoBulk d + uptoBulkAll r
def uptoBulkEntries {H : Type} : List (Lit × DataW H) → Nat
  | [] => 0
  | x :: r => uptoBulkEntry x + uptoBulkEntries r
def uptoBulkEntry {H : Type} : Lit × DataW H → Nat
  | (.string bytes, d) => bytes.length + uptoBulk d + 1
  | (_, d) => uptoBulk d + 1
 end
def uptoSmall : (H : Type) → List (DataW H) → Bool := fun _ ds => decide (uptoBulkAll ds ≤ 1048576)
def OpenSpec.upto (s : _root_.Go.ChangeSpec) : _root_.Go.OpenSpec := { _root_.Go.OpenSpec.ofChange s with cond := some uptoSmall }

/-- 'laws.FnExactConstants', WHERE WHAT IT READS IS OF BULK AT MOST 1048576: true; the input reads as it did. -/
def fnExactConstantsUptoRow : OpenClaim := { program := "ytdlhegdigcdffaa", sum := "2fd5398ed74dccd8cfa9d3d4e7d8646dcd7d84988b6ecf13a070e1ef4948ef2c", func := "loop.example/g01230/laws.FnExactConstants", spec := "fnExactConstants", apart := false, narrowed := true }
def FnExactConstantsUptoSaid : Prop := fnExactConstantsUptoRow.holds Try.pinned (OpenSpec.upto fnExactConstantsSpec)

/-- 'laws.FnExactIsPrime', WHERE WHAT IT READS IS OF BULK AT MOST 1048576: true; the input reads as it did. -/
def fnExactIsPrimeUptoRow : OpenClaim := { program := "ytdlhegdigcdffaa", sum := "2fd5398ed74dccd8cfa9d3d4e7d8646dcd7d84988b6ecf13a070e1ef4948ef2c", func := "loop.example/g01230/laws.FnExactIsPrime", spec := "fnExactIsPrime", apart := false, narrowed := true }
def FnExactIsPrimeUptoSaid : Prop := fnExactIsPrimeUptoRow.holds Try.pinned (OpenSpec.upto fnExactIsPrimeSpec)

/-- 'laws.FnExactIsVector', WHERE WHAT IT READS IS OF BULK AT MOST 1048576: true; the input reads as it did. -/
def fnExactIsVectorUptoRow : OpenClaim := { program := "ytdlhegdigcdffaa", sum := "2fd5398ed74dccd8cfa9d3d4e7d8646dcd7d84988b6ecf13a070e1ef4948ef2c", func := "loop.example/g01230/laws.FnExactIsVector", spec := "fnExactIsVector", apart := false, narrowed := true }
def FnExactIsVectorUptoSaid : Prop := fnExactIsVectorUptoRow.holds Try.pinned (OpenSpec.upto fnExactIsVectorSpec)

/-- 'laws.FnExactCyclicTable', WHERE WHAT IT READS IS OF BULK AT MOST 1048576: true; the input reads as it did. -/
def fnExactCyclicTableUptoRow : OpenClaim := { program := "ytdlhegdigcdffaa", sum := "2fd5398ed74dccd8cfa9d3d4e7d8646dcd7d84988b6ecf13a070e1ef4948ef2c", func := "loop.example/g01230/laws.FnExactCyclicTable", spec := "fnExactCyclicTable", unfollowed := true, recurses := true, apart := false, narrowed := true }
def FnExactCyclicTableUptoSaid : Prop := fnExactCyclicTableUptoRow.holds Try.pinned (OpenSpec.upto fnExactCyclicTableSpec)

/-- 'laws.FnExactDihedralTable', WHERE WHAT IT READS IS OF BULK AT MOST 1048576: true; the input reads as it did. -/
def fnExactDihedralTableUptoRow : OpenClaim := { program := "ytdlhegdigcdffaa", sum := "2fd5398ed74dccd8cfa9d3d4e7d8646dcd7d84988b6ecf13a070e1ef4948ef2c", func := "loop.example/g01230/laws.FnExactDihedralTable", spec := "fnExactDihedralTable", unfollowed := true, recurses := true, apart := false, narrowed := true }
def FnExactDihedralTableUptoSaid : Prop := fnExactDihedralTableUptoRow.holds Try.pinned (OpenSpec.upto fnExactDihedralTableSpec)

/-- 'laws.FnExactQuaternionTable', WHERE WHAT IT READS IS OF BULK AT MOST 1048576: true; the input reads as it did. -/
def fnExactQuaternionTableUptoRow : OpenClaim := { program := "ytdlhegdigcdffaa", sum := "2fd5398ed74dccd8cfa9d3d4e7d8646dcd7d84988b6ecf13a070e1ef4948ef2c", func := "loop.example/g01230/laws.FnExactQuaternionTable", spec := "fnExactQuaternionTable", unfollowed := true, recurses := true, apart := false, narrowed := true }
def FnExactQuaternionTableUptoSaid : Prop := fnExactQuaternionTableUptoRow.holds Try.pinned (OpenSpec.upto fnExactQuaternionTableSpec)

end Rows
end Go.Proofs.Ytdlhegdigcdffaa
