/-
  No cell of these rows narrows 'for every input' (looked for: loops, veiled, ifaces, maps, wideKeys, modest, calm, conditions, laid).
  DERIVED. THE GIVEN ROWS OF THIS SEAT. 5 by the template 'for every input the law returns true; each argument reads behind the call as it read before'; 0 by the template 'total and deterministic' (their statements: YtiifnnokpjbapaaRRTotals.lean).
  GIVEN WITH THE SEED: the statements are not yours to turn. If you find one false, say at which input.
  Laid BY PROGRAM, IN A SANDBOX (cutbox-rows.mjs): the forced cells as the released guide's own fill.sh prints them over the translation 4b7c62d492ac370e… (all of the seat's roots in one cut). By AI agents, Wed Nov 11 2026. No macro, syntax, notation, axiom, sorry.
-/
import Derived.Test.YtiifnnokpjbapaaRRChecked
import GoSem.Claim
import GoSem.ClaimJoined
import GoSem.ClaimMapViews
import Derived.JoinedTies
import Derived.KernelRfl
namespace Go.Proofs.YtiifnnokpjbapaaRR
/- THE CELL 'sum', in the pinned program and in every row, IS THE sha256 OF THE DUMP (.gsa) THAT YtiifnnokpjbapaaRRProg.lean LOADS. Nothing in Lean hashes anything: it is a label: what it is worth is what the hold of that sum in a sandbox is worth. -/
noncomputable def Try.pinned : Pinned := { name := "ytiifnnokpjbapaarr", sum := "4b7c62d492ac370e6d308dc68203d02e8c797363e705f4eb1ab6f63739b5ae84", checked := Try.checked }
namespace Rows
def none {H : Type} : Left H := { results := [], args := [] }

/-- 'laws.FnExactIsGroupTable': WHATEVER THE INPUT: true; the input reads as it did. -/
def fnExactIsGroupTableSpec : ChangeSpec := { name := "fnExactIsGroupTable", fn := fun _ => fun
  | [d] => { results := [.lit (.bool true)], args := [d] }
  | _ => none }
def fnExactIsGroupTableRow : OpenClaim := { program := "ytiifnnokpjbapaarr", sum := "4b7c62d492ac370e6d308dc68203d02e8c797363e705f4eb1ab6f63739b5ae84", func := "loop.example/g01230/laws.FnExactIsGroupTable", spec := "fnExactIsGroupTable", unfollowed := true, recurses := true, apart := false }
def FnExactIsGroupTableSaid : Prop := fnExactIsGroupTableRow.holds Try.pinned (OpenSpec.ofChange fnExactIsGroupTableSpec)

/-- ITS FALSE NEIGHBOUR: 'it returns false'. Refute it at one input. -/
def fnExactIsGroupTableWrong : ChangeSpec := { name := "fnExactIsGroupTable", fn := fun _ => fun
  | [d] => { results := [.lit (.bool false)], args := [d] }
  | _ => none }
def FnExactIsGroupTableWrongFalsely : Prop := fnExactIsGroupTableRow.holds Try.pinned (OpenSpec.ofChange fnExactIsGroupTableWrong)

/-- 'laws.FnExactIsAbelianTable': WHATEVER THE INPUT: true; the input reads as it did. -/
def fnExactIsAbelianTableSpec : ChangeSpec := { name := "fnExactIsAbelianTable", fn := fun _ => fun
  | [d] => { results := [.lit (.bool true)], args := [d] }
  | _ => none }
def fnExactIsAbelianTableRow : OpenClaim := { program := "ytiifnnokpjbapaarr", sum := "4b7c62d492ac370e6d308dc68203d02e8c797363e705f4eb1ab6f63739b5ae84", func := "loop.example/g01230/laws.FnExactIsAbelianTable", spec := "fnExactIsAbelianTable", unfollowed := true, recurses := true, apart := false }
def FnExactIsAbelianTableSaid : Prop := fnExactIsAbelianTableRow.holds Try.pinned (OpenSpec.ofChange fnExactIsAbelianTableSpec)

/-- ITS FALSE NEIGHBOUR: 'it returns false'. Refute it at one input. -/
def fnExactIsAbelianTableWrong : ChangeSpec := { name := "fnExactIsAbelianTable", fn := fun _ => fun
  | [d] => { results := [.lit (.bool false)], args := [d] }
  | _ => none }
def FnExactIsAbelianTableWrongFalsely : Prop := fnExactIsAbelianTableRow.holds Try.pinned (OpenSpec.ofChange fnExactIsAbelianTableWrong)

/-- 'laws.FnExactOrdersIn': WHATEVER THE INPUT: true; the input reads as it did. -/
def fnExactOrdersInSpec : ChangeSpec := { name := "fnExactOrdersIn", fn := fun _ => fun
  | [d] => { results := [.lit (.bool true)], args := [d] }
  | _ => none }
def fnExactOrdersInRow : OpenClaim := { program := "ytiifnnokpjbapaarr", sum := "4b7c62d492ac370e6d308dc68203d02e8c797363e705f4eb1ab6f63739b5ae84", func := "loop.example/g01230/laws.FnExactOrdersIn", spec := "fnExactOrdersIn", unfollowed := true, recurses := true, apart := false }
def FnExactOrdersInSaid : Prop := fnExactOrdersInRow.holds Try.pinned (OpenSpec.ofChange fnExactOrdersInSpec)

/-- ITS FALSE NEIGHBOUR: 'it returns false'. Refute it at one input. -/
def fnExactOrdersInWrong : ChangeSpec := { name := "fnExactOrdersIn", fn := fun _ => fun
  | [d] => { results := [.lit (.bool false)], args := [d] }
  | _ => none }
def FnExactOrdersInWrongFalsely : Prop := fnExactOrdersInRow.holds Try.pinned (OpenSpec.ofChange fnExactOrdersInWrong)

/-- 'laws.FnExactProductOfTables': WHATEVER THE INPUT: true; the input reads as it did. -/
def fnExactProductOfTablesSpec : ChangeSpec := { name := "fnExactProductOfTables", fn := fun _ => fun
  | [d1, d2] => { results := [.lit (.bool true)], args := [d1, d2] }
  | _ => none }
def fnExactProductOfTablesRow : OpenClaim := { program := "ytiifnnokpjbapaarr", sum := "4b7c62d492ac370e6d308dc68203d02e8c797363e705f4eb1ab6f63739b5ae84", func := "loop.example/g01230/laws.FnExactProductOfTables", spec := "fnExactProductOfTables", unfollowed := true, recurses := true, apart := false }
def FnExactProductOfTablesSaid : Prop := fnExactProductOfTablesRow.holds Try.pinned (OpenSpec.ofChange fnExactProductOfTablesSpec)

/-- ITS FALSE NEIGHBOUR: 'it returns false'. Refute it at one input. -/
def fnExactProductOfTablesWrong : ChangeSpec := { name := "fnExactProductOfTables", fn := fun _ => fun
  | [d1, d2] => { results := [.lit (.bool false)], args := [d1, d2] }
  | _ => none }
def FnExactProductOfTablesWrongFalsely : Prop := fnExactProductOfTablesRow.holds Try.pinned (OpenSpec.ofChange fnExactProductOfTablesWrong)

/-- 'laws.FnGroupTables': WHATEVER THE INPUT: true; the input reads as it did. -/
def fnGroupTablesSpec : ChangeSpec := { name := "fnGroupTables", fn := fun _ => fun
  | [d] => { results := [.lit (.bool true)], args := [d] }
  | _ => none }
def fnGroupTablesRow : OpenClaim := { program := "ytiifnnokpjbapaarr", sum := "4b7c62d492ac370e6d308dc68203d02e8c797363e705f4eb1ab6f63739b5ae84", func := "loop.example/g01230/laws.FnGroupTables", spec := "fnGroupTables", unfollowed := true, recurses := true, apart := false }
def FnGroupTablesSaid : Prop := fnGroupTablesRow.holds Try.pinned (OpenSpec.ofChange fnGroupTablesSpec)

/-- ITS FALSE NEIGHBOUR: 'it returns false'. Refute it at one input. -/
def fnGroupTablesWrong : ChangeSpec := { name := "fnGroupTables", fn := fun _ => fun
  | [d] => { results := [.lit (.bool false)], args := [d] }
  | _ => none }
def FnGroupTablesWrongFalsely : Prop := fnGroupTablesRow.holds Try.pinned (OpenSpec.ofChange fnGroupTablesWrong)

/- THE SECOND FORM. 'bulk': how many values and letters a reading holds, each counted each time it is reached (what is shared counts as often as it is met; a slice's spare places count too). A statement '..UptoSaid' is the law's where the arguments, and the package variables that the reading takes, are together of bulk at most 1048576: NARROWER than '..Said'. Prove '..Said' where nothing that the law and all that it calls make is longer than what came in: it says more and counts as full. Else prove '..UptoSaid'. A law counts once. -/
mutual
def uptoBulk {H : Type} : DataW H → Nat
  | .lit (.string bytes) => bytes.length + 1
  | .lit _ => 1
  | .nil => 1
  | .ptr d => uptoBulk d + 1
  | .slice elems spare => uptoBulkAll elems + uptoBulkAll spare + 1
  | .agg parts => uptoBulkAll parts + 1
  | .iface _ d => uptoBulk d + 1
  | .map entries => uptoBulkEntries entries + 1
  | .held _ => 1
def uptoBulkAll {H : Type} : List (DataW H) → Nat
  | [] => 0
  | d :: r => uptoBulk d + uptoBulkAll r
def uptoBulkEntries {H : Type} : List (Lit × DataW H) → Nat
  | [] => 0
  | x :: r => uptoBulkEntry x + uptoBulkEntries r
def uptoBulkEntry {H : Type} : Lit × DataW H → Nat
  | (.string bytes, d) => bytes.length + uptoBulk d + 1
  | (_, d) => uptoBulk d + 1
 end
def uptoSmall : (H : Type) → List (DataW H) → Bool := fun _ ds => decide (uptoBulkAll ds ≤ 1048576)
def OpenSpec.upto (s : _root_.Go.ChangeSpec) : _root_.Go.OpenSpec := { _root_.Go.OpenSpec.ofChange s with cond := some uptoSmall }

/-- 'laws.FnExactIsGroupTable', WHERE WHAT IT READS IS OF BULK AT MOST 1048576: true; the input reads as it did. -/
def fnExactIsGroupTableUptoRow : OpenClaim := { program := "ytiifnnokpjbapaarr", sum := "4b7c62d492ac370e6d308dc68203d02e8c797363e705f4eb1ab6f63739b5ae84", func := "loop.example/g01230/laws.FnExactIsGroupTable", spec := "fnExactIsGroupTable", unfollowed := true, recurses := true, apart := false, narrowed := true }
def FnExactIsGroupTableUptoSaid : Prop := fnExactIsGroupTableUptoRow.holds Try.pinned (OpenSpec.upto fnExactIsGroupTableSpec)

/-- 'laws.FnExactIsAbelianTable', WHERE WHAT IT READS IS OF BULK AT MOST 1048576: true; the input reads as it did. -/
def fnExactIsAbelianTableUptoRow : OpenClaim := { program := "ytiifnnokpjbapaarr", sum := "4b7c62d492ac370e6d308dc68203d02e8c797363e705f4eb1ab6f63739b5ae84", func := "loop.example/g01230/laws.FnExactIsAbelianTable", spec := "fnExactIsAbelianTable", unfollowed := true, recurses := true, apart := false, narrowed := true }
def FnExactIsAbelianTableUptoSaid : Prop := fnExactIsAbelianTableUptoRow.holds Try.pinned (OpenSpec.upto fnExactIsAbelianTableSpec)

/-- 'laws.FnExactOrdersIn', WHERE WHAT IT READS IS OF BULK AT MOST 1048576: true; the input reads as it did. -/
def fnExactOrdersInUptoRow : OpenClaim := { program := "ytiifnnokpjbapaarr", sum := "4b7c62d492ac370e6d308dc68203d02e8c797363e705f4eb1ab6f63739b5ae84", func := "loop.example/g01230/laws.FnExactOrdersIn", spec := "fnExactOrdersIn", unfollowed := true, recurses := true, apart := false, narrowed := true }
def FnExactOrdersInUptoSaid : Prop := fnExactOrdersInUptoRow.holds Try.pinned (OpenSpec.upto fnExactOrdersInSpec)

/-- 'laws.FnExactProductOfTables', WHERE WHAT IT READS IS OF BULK AT MOST 1048576: true; the input reads as it did. -/
def fnExactProductOfTablesUptoRow : OpenClaim := { program := "ytiifnnokpjbapaarr", sum := "4b7c62d492ac370e6d308dc68203d02e8c797363e705f4eb1ab6f63739b5ae84", func := "loop.example/g01230/laws.FnExactProductOfTables", spec := "fnExactProductOfTables", unfollowed := true, recurses := true, apart := false, narrowed := true }
def FnExactProductOfTablesUptoSaid : Prop := fnExactProductOfTablesUptoRow.holds Try.pinned (OpenSpec.upto fnExactProductOfTablesSpec)

/-- 'laws.FnGroupTables', WHERE WHAT IT READS IS OF BULK AT MOST 1048576: true; the input reads as it did. -/
def fnGroupTablesUptoRow : OpenClaim := { program := "ytiifnnokpjbapaarr", sum := "4b7c62d492ac370e6d308dc68203d02e8c797363e705f4eb1ab6f63739b5ae84", func := "loop.example/g01230/laws.FnGroupTables", spec := "fnGroupTables", unfollowed := true, recurses := true, apart := false, narrowed := true }
def FnGroupTablesUptoSaid : Prop := fnGroupTablesUptoRow.holds Try.pinned (OpenSpec.upto fnGroupTablesSpec)

end Rows
end Go.Proofs.YtiifnnokpjbapaaRR
