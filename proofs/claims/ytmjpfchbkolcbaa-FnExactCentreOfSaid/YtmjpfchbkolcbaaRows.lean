/-
  No cell of these rows narrows 'for every input' (looked for: loops, veiled, ifaces, maps, wideKeys, modest, calm, conditions, laid).
  DERIVED. THE GIVEN ROWS OF THIS SEAT. 11 by the template 'for every input the law returns true; each argument reads behind the call as it read before'; 0 by the template 'total and deterministic' (their statements: YtmjpfchbkolcbaaTotals.lean).
  GIVEN WITH THE SEED: the statements are not yours to turn. If you find one false, say at which input.
  Laid BY PROGRAM, IN A SANDBOX (cutbox-rows.mjs): the forced cells as the released guide's own fill.sh prints them over the translation 3cfb2aeb9bd84003… (all of the seat's roots in one cut). By AI agents, Wed Nov 11 2026. No macro, syntax, notation, axiom, sorry.
-/
import Derived.Test.YtmjpfchbkolcbaaChecked
import GoSem.Claim
import GoSem.ClaimJoined
import GoSem.ClaimMapViews
import Derived.JoinedTies
import Derived.KernelRfl
namespace Go.Proofs.Ytmjpfchbkolcbaa
/- THE CELL 'sum', in the pinned program and in every row, IS THE sha256 OF THE DUMP (.gsa) THAT YtmjpfchbkolcbaaProg.lean LOADS. Nothing in Lean hashes anything: it is a label: what it is worth is what the hold of that sum in a sandbox is worth. -/
noncomputable def Try.pinned : Pinned := { name := "ytmjpfchbkolcbaa", sum := "3cfb2aeb9bd840033df1a51cbfb353ac12b6b283b1482ab90f5ae66be1ed3c2d", checked := Try.checked }
namespace Rows
def none {H : Type} : Left H := { results := [], args := [] }

/-- 'laws.FnExactIsAlgebra': WHATEVER THE INPUT: true; the input reads as it did. -/
def fnExactIsAlgebraSpec : ChangeSpec := { name := "fnExactIsAlgebra", fn := fun _ => fun
  | [d] => { results := [.lit (.bool true)], args := [d] }
  | _ => none }
def fnExactIsAlgebraRow : OpenClaim := { program := "ytmjpfchbkolcbaa", sum := "3cfb2aeb9bd840033df1a51cbfb353ac12b6b283b1482ab90f5ae66be1ed3c2d", func := "loop.example/g01230/laws.FnExactIsAlgebra", spec := "fnExactIsAlgebra", apart := false }
def FnExactIsAlgebraSaid : Prop := fnExactIsAlgebraRow.holds Try.pinned (OpenSpec.ofChange fnExactIsAlgebraSpec)

/-- ITS FALSE NEIGHBOUR: 'it returns false'. Refute it at one input. -/
def fnExactIsAlgebraWrong : ChangeSpec := { name := "fnExactIsAlgebra", fn := fun _ => fun
  | [d] => { results := [.lit (.bool false)], args := [d] }
  | _ => none }
def FnExactIsAlgebraWrongFalsely : Prop := fnExactIsAlgebraRow.holds Try.pinned (OpenSpec.ofChange fnExactIsAlgebraWrong)

/-- 'laws.FnExactFirstFault': WHATEVER THE INPUT: true; the input reads as it did. -/
def fnExactFirstFaultSpec : ChangeSpec := { name := "fnExactFirstFault", fn := fun _ => fun
  | [d] => { results := [.lit (.bool true)], args := [d] }
  | _ => none }
def fnExactFirstFaultRow : OpenClaim := { program := "ytmjpfchbkolcbaa", sum := "3cfb2aeb9bd840033df1a51cbfb353ac12b6b283b1482ab90f5ae66be1ed3c2d", func := "loop.example/g01230/laws.FnExactFirstFault", spec := "fnExactFirstFault", apart := false }
def FnExactFirstFaultSaid : Prop := fnExactFirstFaultRow.holds Try.pinned (OpenSpec.ofChange fnExactFirstFaultSpec)

/-- ITS FALSE NEIGHBOUR: 'it returns false'. Refute it at one input. -/
def fnExactFirstFaultWrong : ChangeSpec := { name := "fnExactFirstFault", fn := fun _ => fun
  | [d] => { results := [.lit (.bool false)], args := [d] }
  | _ => none }
def FnExactFirstFaultWrongFalsely : Prop := fnExactFirstFaultRow.holds Try.pinned (OpenSpec.ofChange fnExactFirstFaultWrong)

/-- 'laws.FnExactIsCommutative': WHATEVER THE INPUT: true; the input reads as it did. -/
def fnExactIsCommutativeSpec : ChangeSpec := { name := "fnExactIsCommutative", fn := fun _ => fun
  | [d] => { results := [.lit (.bool true)], args := [d] }
  | _ => none }
def fnExactIsCommutativeRow : OpenClaim := { program := "ytmjpfchbkolcbaa", sum := "3cfb2aeb9bd840033df1a51cbfb353ac12b6b283b1482ab90f5ae66be1ed3c2d", func := "loop.example/g01230/laws.FnExactIsCommutative", spec := "fnExactIsCommutative", unfollowed := true, recurses := true, apart := false }
def FnExactIsCommutativeSaid : Prop := fnExactIsCommutativeRow.holds Try.pinned (OpenSpec.ofChange fnExactIsCommutativeSpec)

/-- ITS FALSE NEIGHBOUR: 'it returns false'. Refute it at one input. -/
def fnExactIsCommutativeWrong : ChangeSpec := { name := "fnExactIsCommutative", fn := fun _ => fun
  | [d] => { results := [.lit (.bool false)], args := [d] }
  | _ => none }
def FnExactIsCommutativeWrongFalsely : Prop := fnExactIsCommutativeRow.holds Try.pinned (OpenSpec.ofChange fnExactIsCommutativeWrong)

/-- 'laws.FnExactMultiplyVectors': WHATEVER THE INPUT: true; the input reads as it did. -/
def fnExactMultiplyVectorsSpec : ChangeSpec := { name := "fnExactMultiplyVectors", fn := fun _ => fun
  | [d1, d2, d3] => { results := [.lit (.bool true)], args := [d1, d2, d3] }
  | _ => none }
def fnExactMultiplyVectorsRow : OpenClaim := { program := "ytmjpfchbkolcbaa", sum := "3cfb2aeb9bd840033df1a51cbfb353ac12b6b283b1482ab90f5ae66be1ed3c2d", func := "loop.example/g01230/laws.FnExactMultiplyVectors", spec := "fnExactMultiplyVectors", unfollowed := true, recurses := true, apart := false }
def FnExactMultiplyVectorsSaid : Prop := fnExactMultiplyVectorsRow.holds Try.pinned (OpenSpec.ofChange fnExactMultiplyVectorsSpec)

/-- ITS FALSE NEIGHBOUR: 'it returns false'. Refute it at one input. -/
def fnExactMultiplyVectorsWrong : ChangeSpec := { name := "fnExactMultiplyVectors", fn := fun _ => fun
  | [d1, d2, d3] => { results := [.lit (.bool false)], args := [d1, d2, d3] }
  | _ => none }
def FnExactMultiplyVectorsWrongFalsely : Prop := fnExactMultiplyVectorsRow.holds Try.pinned (OpenSpec.ofChange fnExactMultiplyVectorsWrong)

/-- 'laws.FnExactTraceOf': WHATEVER THE INPUT: true; the input reads as it did. -/
def fnExactTraceOfSpec : ChangeSpec := { name := "fnExactTraceOf", fn := fun _ => fun
  | [d1, d2] => { results := [.lit (.bool true)], args := [d1, d2] }
  | _ => none }
def fnExactTraceOfRow : OpenClaim := { program := "ytmjpfchbkolcbaa", sum := "3cfb2aeb9bd840033df1a51cbfb353ac12b6b283b1482ab90f5ae66be1ed3c2d", func := "loop.example/g01230/laws.FnExactTraceOf", spec := "fnExactTraceOf", unfollowed := true, recurses := true, apart := false }
def FnExactTraceOfSaid : Prop := fnExactTraceOfRow.holds Try.pinned (OpenSpec.ofChange fnExactTraceOfSpec)

/-- ITS FALSE NEIGHBOUR: 'it returns false'. Refute it at one input. -/
def fnExactTraceOfWrong : ChangeSpec := { name := "fnExactTraceOf", fn := fun _ => fun
  | [d1, d2] => { results := [.lit (.bool false)], args := [d1, d2] }
  | _ => none }
def FnExactTraceOfWrongFalsely : Prop := fnExactTraceOfRow.holds Try.pinned (OpenSpec.ofChange fnExactTraceOfWrong)

/-- 'laws.FnExactPowerOf': WHATEVER THE INPUT: true; the input reads as it did. -/
def fnExactPowerOfSpec : ChangeSpec := { name := "fnExactPowerOf", fn := fun _ => fun
  | [d1, d2, d3] => { results := [.lit (.bool true)], args := [d1, d2, d3] }
  | _ => none }
def fnExactPowerOfRow : OpenClaim := { program := "ytmjpfchbkolcbaa", sum := "3cfb2aeb9bd840033df1a51cbfb353ac12b6b283b1482ab90f5ae66be1ed3c2d", func := "loop.example/g01230/laws.FnExactPowerOf", spec := "fnExactPowerOf", unfollowed := true, recurses := true, apart := false }
def FnExactPowerOfSaid : Prop := fnExactPowerOfRow.holds Try.pinned (OpenSpec.ofChange fnExactPowerOfSpec)

/-- ITS FALSE NEIGHBOUR: 'it returns false'. Refute it at one input. -/
def fnExactPowerOfWrong : ChangeSpec := { name := "fnExactPowerOf", fn := fun _ => fun
  | [d1, d2, d3] => { results := [.lit (.bool false)], args := [d1, d2, d3] }
  | _ => none }
def FnExactPowerOfWrongFalsely : Prop := fnExactPowerOfRow.holds Try.pinned (OpenSpec.ofChange fnExactPowerOfWrong)

/-- 'laws.FnExactLeftTable': WHATEVER THE INPUT: true; the input reads as it did. -/
def fnExactLeftTableSpec : ChangeSpec := { name := "fnExactLeftTable", fn := fun _ => fun
  | [d1, d2] => { results := [.lit (.bool true)], args := [d1, d2] }
  | _ => none }
def fnExactLeftTableRow : OpenClaim := { program := "ytmjpfchbkolcbaa", sum := "3cfb2aeb9bd840033df1a51cbfb353ac12b6b283b1482ab90f5ae66be1ed3c2d", func := "loop.example/g01230/laws.FnExactLeftTable", spec := "fnExactLeftTable", unfollowed := true, recurses := true, apart := false }
def FnExactLeftTableSaid : Prop := fnExactLeftTableRow.holds Try.pinned (OpenSpec.ofChange fnExactLeftTableSpec)

/-- ITS FALSE NEIGHBOUR: 'it returns false'. Refute it at one input. -/
def fnExactLeftTableWrong : ChangeSpec := { name := "fnExactLeftTable", fn := fun _ => fun
  | [d1, d2] => { results := [.lit (.bool false)], args := [d1, d2] }
  | _ => none }
def FnExactLeftTableWrongFalsely : Prop := fnExactLeftTableRow.holds Try.pinned (OpenSpec.ofChange fnExactLeftTableWrong)

/-- 'laws.FnExactOppositeAlgebra': WHATEVER THE INPUT: true; the input reads as it did. -/
def fnExactOppositeAlgebraSpec : ChangeSpec := { name := "fnExactOppositeAlgebra", fn := fun _ => fun
  | [d] => { results := [.lit (.bool true)], args := [d] }
  | _ => none }
def fnExactOppositeAlgebraRow : OpenClaim := { program := "ytmjpfchbkolcbaa", sum := "3cfb2aeb9bd840033df1a51cbfb353ac12b6b283b1482ab90f5ae66be1ed3c2d", func := "loop.example/g01230/laws.FnExactOppositeAlgebra", spec := "fnExactOppositeAlgebra", unfollowed := true, recurses := true, apart := false }
def FnExactOppositeAlgebraSaid : Prop := fnExactOppositeAlgebraRow.holds Try.pinned (OpenSpec.ofChange fnExactOppositeAlgebraSpec)

/-- ITS FALSE NEIGHBOUR: 'it returns false'. Refute it at one input. -/
def fnExactOppositeAlgebraWrong : ChangeSpec := { name := "fnExactOppositeAlgebra", fn := fun _ => fun
  | [d] => { results := [.lit (.bool false)], args := [d] }
  | _ => none }
def FnExactOppositeAlgebraWrongFalsely : Prop := fnExactOppositeAlgebraRow.holds Try.pinned (OpenSpec.ofChange fnExactOppositeAlgebraWrong)

/-- 'laws.FnExactDualCoalgebra': WHATEVER THE INPUT: true; the input reads as it did. -/
def fnExactDualCoalgebraSpec : ChangeSpec := { name := "fnExactDualCoalgebra", fn := fun _ => fun
  | [d] => { results := [.lit (.bool true)], args := [d] }
  | _ => none }
def fnExactDualCoalgebraRow : OpenClaim := { program := "ytmjpfchbkolcbaa", sum := "3cfb2aeb9bd840033df1a51cbfb353ac12b6b283b1482ab90f5ae66be1ed3c2d", func := "loop.example/g01230/laws.FnExactDualCoalgebra", spec := "fnExactDualCoalgebra", unfollowed := true, recurses := true, apart := false }
def FnExactDualCoalgebraSaid : Prop := fnExactDualCoalgebraRow.holds Try.pinned (OpenSpec.ofChange fnExactDualCoalgebraSpec)

/-- ITS FALSE NEIGHBOUR: 'it returns false'. Refute it at one input. -/
def fnExactDualCoalgebraWrong : ChangeSpec := { name := "fnExactDualCoalgebra", fn := fun _ => fun
  | [d] => { results := [.lit (.bool false)], args := [d] }
  | _ => none }
def FnExactDualCoalgebraWrongFalsely : Prop := fnExactDualCoalgebraRow.holds Try.pinned (OpenSpec.ofChange fnExactDualCoalgebraWrong)

/-- 'laws.FnExactProductAlgebra': WHATEVER THE INPUT: true; the input reads as it did. -/
def fnExactProductAlgebraSpec : ChangeSpec := { name := "fnExactProductAlgebra", fn := fun _ => fun
  | [d1, d2] => { results := [.lit (.bool true)], args := [d1, d2] }
  | _ => none }
def fnExactProductAlgebraRow : OpenClaim := { program := "ytmjpfchbkolcbaa", sum := "3cfb2aeb9bd840033df1a51cbfb353ac12b6b283b1482ab90f5ae66be1ed3c2d", func := "loop.example/g01230/laws.FnExactProductAlgebra", spec := "fnExactProductAlgebra", unfollowed := true, recurses := true, apart := false }
def FnExactProductAlgebraSaid : Prop := fnExactProductAlgebraRow.holds Try.pinned (OpenSpec.ofChange fnExactProductAlgebraSpec)

/-- ITS FALSE NEIGHBOUR: 'it returns false'. Refute it at one input. -/
def fnExactProductAlgebraWrong : ChangeSpec := { name := "fnExactProductAlgebra", fn := fun _ => fun
  | [d1, d2] => { results := [.lit (.bool false)], args := [d1, d2] }
  | _ => none }
def FnExactProductAlgebraWrongFalsely : Prop := fnExactProductAlgebraRow.holds Try.pinned (OpenSpec.ofChange fnExactProductAlgebraWrong)

/-- 'laws.FnExactCentreOf': WHATEVER THE INPUT: true; the input reads as it did. -/
def fnExactCentreOfSpec : ChangeSpec := { name := "fnExactCentreOf", fn := fun _ => fun
  | [d] => { results := [.lit (.bool true)], args := [d] }
  | _ => none }
def fnExactCentreOfRow : OpenClaim := { program := "ytmjpfchbkolcbaa", sum := "3cfb2aeb9bd840033df1a51cbfb353ac12b6b283b1482ab90f5ae66be1ed3c2d", func := "loop.example/g01230/laws.FnExactCentreOf", spec := "fnExactCentreOf", unfollowed := true, recurses := true, apart := false }
def FnExactCentreOfSaid : Prop := fnExactCentreOfRow.holds Try.pinned (OpenSpec.ofChange fnExactCentreOfSpec)

/-- ITS FALSE NEIGHBOUR: 'it returns false'. Refute it at one input. -/
def fnExactCentreOfWrong : ChangeSpec := { name := "fnExactCentreOf", fn := fun _ => fun
  | [d] => { results := [.lit (.bool false)], args := [d] }
  | _ => none }
def FnExactCentreOfWrongFalsely : Prop := fnExactCentreOfRow.holds Try.pinned (OpenSpec.ofChange fnExactCentreOfWrong)

/- THE SECOND FORM. 'bulk': how many values and letters a reading holds, each counted each time it is reached (what is shared counts as often as it is met; a slice's spare places count too). A statement '..UptoSaid' is the law's where the arguments, and the package variables that the reading takes, are together of bulk at most 1048576: NARROWER than '..Said'. Prove '..Said' where nothing that the law and all that it calls make is longer than what came in: it says more and counts as full. Else prove '..UptoSaid'. A law counts once. -/
mutual
def uptoBulk {H : Type} : DataW H → Nat
  | .lit (.string bytes) => bytes.length + 1
  | .lit _ => 1
  | .nil => 1
  | .ptr d => uptoBulk d + 1
  | .slice elems spare => uptoBulkAll elems + uptoBulkAll spare + 1
  | .agg parts => uptoBulkAll parts + 1
  | .iface _ d => uptoBulk d + 1
  | .map entries => uptoBulkEntries entries + 1
  | .held _ => 1
def uptoBulkAll {H : Type} : List (DataW H) → Nat
  | [] => 0
  | d :: r => uptoBulk d + uptoBulkAll r
def uptoBulkEntries {H : Type} : List (Lit × DataW H) → Nat
  | [] => 0
  | x :: r => uptoBulkEntry x + uptoBulkEntries r
def uptoBulkEntry {H : Type} : Lit × DataW H → Nat
  | (.string bytes, d) => bytes.length + uptoBulk d + 1
  | (_, d) => uptoBulk d + 1
 end
def uptoSmall : (H : Type) → List (DataW H) → Bool := fun _ ds => decide (uptoBulkAll ds ≤ 1048576)
def OpenSpec.upto (s : _root_.Go.ChangeSpec) : _root_.Go.OpenSpec := { _root_.Go.OpenSpec.ofChange s with cond := some uptoSmall }

/-- 'laws.FnExactIsAlgebra', WHERE WHAT IT READS IS OF BULK AT MOST 1048576: true; the input reads as it did. -/
def fnExactIsAlgebraUptoRow : OpenClaim := { program := "ytmjpfchbkolcbaa", sum := "3cfb2aeb9bd840033df1a51cbfb353ac12b6b283b1482ab90f5ae66be1ed3c2d", func := "loop.example/g01230/laws.FnExactIsAlgebra", spec := "fnExactIsAlgebra", apart := false, narrowed := true }
def FnExactIsAlgebraUptoSaid : Prop := fnExactIsAlgebraUptoRow.holds Try.pinned (OpenSpec.upto fnExactIsAlgebraSpec)

/-- 'laws.FnExactFirstFault', WHERE WHAT IT READS IS OF BULK AT MOST 1048576: true; the input reads as it did. -/
def fnExactFirstFaultUptoRow : OpenClaim := { program := "ytmjpfchbkolcbaa", sum := "3cfb2aeb9bd840033df1a51cbfb353ac12b6b283b1482ab90f5ae66be1ed3c2d", func := "loop.example/g01230/laws.FnExactFirstFault", spec := "fnExactFirstFault", apart := false, narrowed := true }
def FnExactFirstFaultUptoSaid : Prop := fnExactFirstFaultUptoRow.holds Try.pinned (OpenSpec.upto fnExactFirstFaultSpec)

/-- 'laws.FnExactIsCommutative', WHERE WHAT IT READS IS OF BULK AT MOST 1048576: true; the input reads as it did. -/
def fnExactIsCommutativeUptoRow : OpenClaim := { program := "ytmjpfchbkolcbaa", sum := "3cfb2aeb9bd840033df1a51cbfb353ac12b6b283b1482ab90f5ae66be1ed3c2d", func := "loop.example/g01230/laws.FnExactIsCommutative", spec := "fnExactIsCommutative", unfollowed := true, recurses := true, apart := false, narrowed := true }
def FnExactIsCommutativeUptoSaid : Prop := fnExactIsCommutativeUptoRow.holds Try.pinned (OpenSpec.upto fnExactIsCommutativeSpec)

/-- 'laws.FnExactMultiplyVectors', WHERE WHAT IT READS IS OF BULK AT MOST 1048576: true; the input reads as it did. -/
def fnExactMultiplyVectorsUptoRow : OpenClaim := { program := "ytmjpfchbkolcbaa", sum := "3cfb2aeb9bd840033df1a51cbfb353ac12b6b283b1482ab90f5ae66be1ed3c2d", func := "loop.example/g01230/laws.FnExactMultiplyVectors", spec := "fnExactMultiplyVectors", unfollowed := true, recurses := true, apart := false, narrowed := true }
def FnExactMultiplyVectorsUptoSaid : Prop := fnExactMultiplyVectorsUptoRow.holds Try.pinned (OpenSpec.upto fnExactMultiplyVectorsSpec)

/-- 'laws.FnExactTraceOf', WHERE WHAT IT READS IS OF BULK AT MOST 1048576: true; the input reads as it did. -/
def fnExactTraceOfUptoRow : OpenClaim := { program := "ytmjpfchbkolcbaa", sum := "3cfb2aeb9bd840033df1a51cbfb353ac12b6b283b1482ab90f5ae66be1ed3c2d", func := "loop.example/g01230/laws.FnExactTraceOf", spec := "fnExactTraceOf", unfollowed := true, recurses := true, apart := false, narrowed := true }
def FnExactTraceOfUptoSaid : Prop := fnExactTraceOfUptoRow.holds Try.pinned (OpenSpec.upto fnExactTraceOfSpec)

/-- 'laws.FnExactPowerOf', WHERE WHAT IT READS IS OF BULK AT MOST 1048576: true; the input reads as it did. -/
def fnExactPowerOfUptoRow : OpenClaim := { program := "ytmjpfchbkolcbaa", sum := "3cfb2aeb9bd840033df1a51cbfb353ac12b6b283b1482ab90f5ae66be1ed3c2d", func := "loop.example/g01230/laws.FnExactPowerOf", spec := "fnExactPowerOf", unfollowed := true, recurses := true, apart := false, narrowed := true }
def FnExactPowerOfUptoSaid : Prop := fnExactPowerOfUptoRow.holds Try.pinned (OpenSpec.upto fnExactPowerOfSpec)

/-- 'laws.FnExactLeftTable', WHERE WHAT IT READS IS OF BULK AT MOST 1048576: true; the input reads as it did. -/
def fnExactLeftTableUptoRow : OpenClaim := { program := "ytmjpfchbkolcbaa", sum := "3cfb2aeb9bd840033df1a51cbfb353ac12b6b283b1482ab90f5ae66be1ed3c2d", func := "loop.example/g01230/laws.FnExactLeftTable", spec := "fnExactLeftTable", unfollowed := true, recurses := true, apart := false, narrowed := true }
def FnExactLeftTableUptoSaid : Prop := fnExactLeftTableUptoRow.holds Try.pinned (OpenSpec.upto fnExactLeftTableSpec)

/-- 'laws.FnExactOppositeAlgebra', WHERE WHAT IT READS IS OF BULK AT MOST 1048576: true; the input reads as it did. -/
def fnExactOppositeAlgebraUptoRow : OpenClaim := { program := "ytmjpfchbkolcbaa", sum := "3cfb2aeb9bd840033df1a51cbfb353ac12b6b283b1482ab90f5ae66be1ed3c2d", func := "loop.example/g01230/laws.FnExactOppositeAlgebra", spec := "fnExactOppositeAlgebra", unfollowed := true, recurses := true, apart := false, narrowed := true }
def FnExactOppositeAlgebraUptoSaid : Prop := fnExactOppositeAlgebraUptoRow.holds Try.pinned (OpenSpec.upto fnExactOppositeAlgebraSpec)

/-- 'laws.FnExactDualCoalgebra', WHERE WHAT IT READS IS OF BULK AT MOST 1048576: true; the input reads as it did. -/
def fnExactDualCoalgebraUptoRow : OpenClaim := { program := "ytmjpfchbkolcbaa", sum := "3cfb2aeb9bd840033df1a51cbfb353ac12b6b283b1482ab90f5ae66be1ed3c2d", func := "loop.example/g01230/laws.FnExactDualCoalgebra", spec := "fnExactDualCoalgebra", unfollowed := true, recurses := true, apart := false, narrowed := true }
def FnExactDualCoalgebraUptoSaid : Prop := fnExactDualCoalgebraUptoRow.holds Try.pinned (OpenSpec.upto fnExactDualCoalgebraSpec)

/-- 'laws.FnExactProductAlgebra', WHERE WHAT IT READS IS OF BULK AT MOST 1048576: true; the input reads as it did. -/
def fnExactProductAlgebraUptoRow : OpenClaim := { program := "ytmjpfchbkolcbaa", sum := "3cfb2aeb9bd840033df1a51cbfb353ac12b6b283b1482ab90f5ae66be1ed3c2d", func := "loop.example/g01230/laws.FnExactProductAlgebra", spec := "fnExactProductAlgebra", unfollowed := true, recurses := true, apart := false, narrowed := true }
def FnExactProductAlgebraUptoSaid : Prop := fnExactProductAlgebraUptoRow.holds Try.pinned (OpenSpec.upto fnExactProductAlgebraSpec)

/-- 'laws.FnExactCentreOf', WHERE WHAT IT READS IS OF BULK AT MOST 1048576: true; the input reads as it did. -/
def fnExactCentreOfUptoRow : OpenClaim := { program := "ytmjpfchbkolcbaa", sum := "3cfb2aeb9bd840033df1a51cbfb353ac12b6b283b1482ab90f5ae66be1ed3c2d", func := "loop.example/g01230/laws.FnExactCentreOf", spec := "fnExactCentreOf", unfollowed := true, recurses := true, apart := false, narrowed := true }
def FnExactCentreOfUptoSaid : Prop := fnExactCentreOfUptoRow.holds Try.pinned (OpenSpec.upto fnExactCentreOfSpec)

end Rows
end Go.Proofs.Ytmjpfchbkolcbaa
