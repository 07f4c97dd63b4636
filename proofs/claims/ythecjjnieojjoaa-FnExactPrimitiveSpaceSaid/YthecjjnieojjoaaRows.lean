/-
  No cell of these rows narrows 'for every input' (looked for: loops, veiled, ifaces, maps, wideKeys, modest, calm, conditions, laid).
  DERIVED. THE GIVEN ROWS OF THIS SEAT. 12 by the template 'for every input the law returns true; each argument reads behind the call as it read before'; 0 by the template 'total and deterministic' (their statements: YthecjjnieojjoaaTotals.lean).
  GIVEN WITH THE SEED: the statements are not yours to turn. If you find one false, say at which input.
  Laid BY PROGRAM, IN A SANDBOX (cutbox-rows.mjs): the forced cells as the released guide's own fill.sh prints them over the translation d3798ee6333c7a13… (all of the seat's roots in one cut). By AI agents, Wed Nov 11 2026. No macro, syntax, notation, axiom, sorry.
-/
import Derived.Test.YthecjjnieojjoaaChecked
import GoSem.Claim
import GoSem.ClaimJoined
import GoSem.ClaimMapViews
import Derived.JoinedTies
import Derived.KernelRfl
namespace Go.Proofs.Ythecjjnieojjoaa
/- THE CELL 'sum', in the pinned program and in every row, IS THE sha256 OF THE DUMP (.gsa) THAT YthecjjnieojjoaaProg.lean LOADS. Nothing in Lean hashes anything: it is a label: what it is worth is what the hold of that sum in a sandbox is worth. -/
noncomputable def Try.pinned : Pinned := { name := "ythecjjnieojjoaa", sum := "d3798ee6333c7a136bb9ece7565fa424ab829305fbb23855b9cd9132a2713a2b", checked := Try.checked }
namespace Rows
def none {H : Type} : Left H := { results := [], args := [] }

/-- 'laws.FnExactIsCoalgebra': WHATEVER THE INPUT: true; the input reads as it did. -/
def fnExactIsCoalgebraSpec : ChangeSpec := { name := "fnExactIsCoalgebra", fn := fun _ => fun
  | [d] => { results := [.lit (.bool true)], args := [d] }
  | _ => none }
def fnExactIsCoalgebraRow : OpenClaim := { program := "ythecjjnieojjoaa", sum := "d3798ee6333c7a136bb9ece7565fa424ab829305fbb23855b9cd9132a2713a2b", func := "loop.example/g01230/laws.FnExactIsCoalgebra", spec := "fnExactIsCoalgebra", apart := false }
def FnExactIsCoalgebraSaid : Prop := fnExactIsCoalgebraRow.holds Try.pinned (OpenSpec.ofChange fnExactIsCoalgebraSpec)

/-- ITS FALSE NEIGHBOUR: 'it returns false'. Refute it at one input. -/
def fnExactIsCoalgebraWrong : ChangeSpec := { name := "fnExactIsCoalgebra", fn := fun _ => fun
  | [d] => { results := [.lit (.bool false)], args := [d] }
  | _ => none }
def FnExactIsCoalgebraWrongFalsely : Prop := fnExactIsCoalgebraRow.holds Try.pinned (OpenSpec.ofChange fnExactIsCoalgebraWrong)

/-- 'laws.FnExactFirstCoFault': WHATEVER THE INPUT: true; the input reads as it did. -/
def fnExactFirstCoFaultSpec : ChangeSpec := { name := "fnExactFirstCoFault", fn := fun _ => fun
  | [d] => { results := [.lit (.bool true)], args := [d] }
  | _ => none }
def fnExactFirstCoFaultRow : OpenClaim := { program := "ythecjjnieojjoaa", sum := "d3798ee6333c7a136bb9ece7565fa424ab829305fbb23855b9cd9132a2713a2b", func := "loop.example/g01230/laws.FnExactFirstCoFault", spec := "fnExactFirstCoFault", apart := false }
def FnExactFirstCoFaultSaid : Prop := fnExactFirstCoFaultRow.holds Try.pinned (OpenSpec.ofChange fnExactFirstCoFaultSpec)

/-- ITS FALSE NEIGHBOUR: 'it returns false'. Refute it at one input. -/
def fnExactFirstCoFaultWrong : ChangeSpec := { name := "fnExactFirstCoFault", fn := fun _ => fun
  | [d] => { results := [.lit (.bool false)], args := [d] }
  | _ => none }
def FnExactFirstCoFaultWrongFalsely : Prop := fnExactFirstCoFaultRow.holds Try.pinned (OpenSpec.ofChange fnExactFirstCoFaultWrong)

/-- 'laws.FnExactCounitIn': WHATEVER THE INPUT: true; the input reads as it did. -/
def fnExactCounitInSpec : ChangeSpec := { name := "fnExactCounitIn", fn := fun _ => fun
  | [d1, d2] => { results := [.lit (.bool true)], args := [d1, d2] }
  | _ => none }
def fnExactCounitInRow : OpenClaim := { program := "ythecjjnieojjoaa", sum := "d3798ee6333c7a136bb9ece7565fa424ab829305fbb23855b9cd9132a2713a2b", func := "loop.example/g01230/laws.FnExactCounitIn", spec := "fnExactCounitIn", unfollowed := true, recurses := true, apart := false }
def FnExactCounitInSaid : Prop := fnExactCounitInRow.holds Try.pinned (OpenSpec.ofChange fnExactCounitInSpec)

/-- ITS FALSE NEIGHBOUR: 'it returns false'. Refute it at one input. -/
def fnExactCounitInWrong : ChangeSpec := { name := "fnExactCounitIn", fn := fun _ => fun
  | [d1, d2] => { results := [.lit (.bool false)], args := [d1, d2] }
  | _ => none }
def FnExactCounitInWrongFalsely : Prop := fnExactCounitInRow.holds Try.pinned (OpenSpec.ofChange fnExactCounitInWrong)

/-- 'laws.FnExactIsCocommutative': WHATEVER THE INPUT: true; the input reads as it did. -/
def fnExactIsCocommutativeSpec : ChangeSpec := { name := "fnExactIsCocommutative", fn := fun _ => fun
  | [d] => { results := [.lit (.bool true)], args := [d] }
  | _ => none }
def fnExactIsCocommutativeRow : OpenClaim := { program := "ythecjjnieojjoaa", sum := "d3798ee6333c7a136bb9ece7565fa424ab829305fbb23855b9cd9132a2713a2b", func := "loop.example/g01230/laws.FnExactIsCocommutative", spec := "fnExactIsCocommutative", unfollowed := true, recurses := true, apart := false }
def FnExactIsCocommutativeSaid : Prop := fnExactIsCocommutativeRow.holds Try.pinned (OpenSpec.ofChange fnExactIsCocommutativeSpec)

/-- ITS FALSE NEIGHBOUR: 'it returns false'. Refute it at one input. -/
def fnExactIsCocommutativeWrong : ChangeSpec := { name := "fnExactIsCocommutative", fn := fun _ => fun
  | [d] => { results := [.lit (.bool false)], args := [d] }
  | _ => none }
def FnExactIsCocommutativeWrongFalsely : Prop := fnExactIsCocommutativeRow.holds Try.pinned (OpenSpec.ofChange fnExactIsCocommutativeWrong)

/-- 'laws.FnExactCoproductIn': WHATEVER THE INPUT: true; the input reads as it did. -/
def fnExactCoproductInSpec : ChangeSpec := { name := "fnExactCoproductIn", fn := fun _ => fun
  | [d1, d2] => { results := [.lit (.bool true)], args := [d1, d2] }
  | _ => none }
def fnExactCoproductInRow : OpenClaim := { program := "ythecjjnieojjoaa", sum := "d3798ee6333c7a136bb9ece7565fa424ab829305fbb23855b9cd9132a2713a2b", func := "loop.example/g01230/laws.FnExactCoproductIn", spec := "fnExactCoproductIn", unfollowed := true, recurses := true, apart := false }
def FnExactCoproductInSaid : Prop := fnExactCoproductInRow.holds Try.pinned (OpenSpec.ofChange fnExactCoproductInSpec)

/-- ITS FALSE NEIGHBOUR: 'it returns false'. Refute it at one input. -/
def fnExactCoproductInWrong : ChangeSpec := { name := "fnExactCoproductIn", fn := fun _ => fun
  | [d1, d2] => { results := [.lit (.bool false)], args := [d1, d2] }
  | _ => none }
def FnExactCoproductInWrongFalsely : Prop := fnExactCoproductInRow.holds Try.pinned (OpenSpec.ofChange fnExactCoproductInWrong)

/-- 'laws.FnExactDualAlgebra': WHATEVER THE INPUT: true; the input reads as it did. -/
def fnExactDualAlgebraSpec : ChangeSpec := { name := "fnExactDualAlgebra", fn := fun _ => fun
  | [d] => { results := [.lit (.bool true)], args := [d] }
  | _ => none }
def fnExactDualAlgebraRow : OpenClaim := { program := "ythecjjnieojjoaa", sum := "d3798ee6333c7a136bb9ece7565fa424ab829305fbb23855b9cd9132a2713a2b", func := "loop.example/g01230/laws.FnExactDualAlgebra", spec := "fnExactDualAlgebra", unfollowed := true, recurses := true, apart := false }
def FnExactDualAlgebraSaid : Prop := fnExactDualAlgebraRow.holds Try.pinned (OpenSpec.ofChange fnExactDualAlgebraSpec)

/-- ITS FALSE NEIGHBOUR: 'it returns false'. Refute it at one input. -/
def fnExactDualAlgebraWrong : ChangeSpec := { name := "fnExactDualAlgebra", fn := fun _ => fun
  | [d] => { results := [.lit (.bool false)], args := [d] }
  | _ => none }
def FnExactDualAlgebraWrongFalsely : Prop := fnExactDualAlgebraRow.holds Try.pinned (OpenSpec.ofChange fnExactDualAlgebraWrong)

/-- 'laws.FnExactIsGroupLike': WHATEVER THE INPUT: true; the input reads as it did. -/
def fnExactIsGroupLikeSpec : ChangeSpec := { name := "fnExactIsGroupLike", fn := fun _ => fun
  | [d1, d2] => { results := [.lit (.bool true)], args := [d1, d2] }
  | _ => none }
def fnExactIsGroupLikeRow : OpenClaim := { program := "ythecjjnieojjoaa", sum := "d3798ee6333c7a136bb9ece7565fa424ab829305fbb23855b9cd9132a2713a2b", func := "loop.example/g01230/laws.FnExactIsGroupLike", spec := "fnExactIsGroupLike", unfollowed := true, recurses := true, apart := false }
def FnExactIsGroupLikeSaid : Prop := fnExactIsGroupLikeRow.holds Try.pinned (OpenSpec.ofChange fnExactIsGroupLikeSpec)

/-- ITS FALSE NEIGHBOUR: 'it returns false'. Refute it at one input. -/
def fnExactIsGroupLikeWrong : ChangeSpec := { name := "fnExactIsGroupLike", fn := fun _ => fun
  | [d1, d2] => { results := [.lit (.bool false)], args := [d1, d2] }
  | _ => none }
def FnExactIsGroupLikeWrongFalsely : Prop := fnExactIsGroupLikeRow.holds Try.pinned (OpenSpec.ofChange fnExactIsGroupLikeWrong)

/-- 'laws.FnExactGroupLikes': WHATEVER THE INPUT: true; the input reads as it did. -/
def fnExactGroupLikesSpec : ChangeSpec := { name := "fnExactGroupLikes", fn := fun _ => fun
  | [d] => { results := [.lit (.bool true)], args := [d] }
  | _ => none }
def fnExactGroupLikesRow : OpenClaim := { program := "ythecjjnieojjoaa", sum := "d3798ee6333c7a136bb9ece7565fa424ab829305fbb23855b9cd9132a2713a2b", func := "loop.example/g01230/laws.FnExactGroupLikes", spec := "fnExactGroupLikes", unfollowed := true, recurses := true, apart := false }
def FnExactGroupLikesSaid : Prop := fnExactGroupLikesRow.holds Try.pinned (OpenSpec.ofChange fnExactGroupLikesSpec)

/-- ITS FALSE NEIGHBOUR: 'it returns false'. Refute it at one input. -/
def fnExactGroupLikesWrong : ChangeSpec := { name := "fnExactGroupLikes", fn := fun _ => fun
  | [d] => { results := [.lit (.bool false)], args := [d] }
  | _ => none }
def FnExactGroupLikesWrongFalsely : Prop := fnExactGroupLikesRow.holds Try.pinned (OpenSpec.ofChange fnExactGroupLikesWrong)

/-- 'laws.FnExactUnitMap': WHATEVER THE INPUT: true; the input reads as it did. -/
def fnExactUnitMapSpec : ChangeSpec := { name := "fnExactUnitMap", fn := fun _ => fun
  | [d1, d2] => { results := [.lit (.bool true)], args := [d1, d2] }
  | _ => none }
def fnExactUnitMapRow : OpenClaim := { program := "ythecjjnieojjoaa", sum := "d3798ee6333c7a136bb9ece7565fa424ab829305fbb23855b9cd9132a2713a2b", func := "loop.example/g01230/laws.FnExactUnitMap", spec := "fnExactUnitMap", apart := false }
def FnExactUnitMapSaid : Prop := fnExactUnitMapRow.holds Try.pinned (OpenSpec.ofChange fnExactUnitMapSpec)

/-- ITS FALSE NEIGHBOUR: 'it returns false'. Refute it at one input. -/
def fnExactUnitMapWrong : ChangeSpec := { name := "fnExactUnitMap", fn := fun _ => fun
  | [d1, d2] => { results := [.lit (.bool false)], args := [d1, d2] }
  | _ => none }
def FnExactUnitMapWrongFalsely : Prop := fnExactUnitMapRow.holds Try.pinned (OpenSpec.ofChange fnExactUnitMapWrong)

/-- 'laws.FnExactLeastSubcoalgebra': WHATEVER THE INPUT: true; the input reads as it did. -/
def fnExactLeastSubcoalgebraSpec : ChangeSpec := { name := "fnExactLeastSubcoalgebra", fn := fun _ => fun
  | [d1, d2] => { results := [.lit (.bool true)], args := [d1, d2] }
  | _ => none }
def fnExactLeastSubcoalgebraRow : OpenClaim := { program := "ythecjjnieojjoaa", sum := "d3798ee6333c7a136bb9ece7565fa424ab829305fbb23855b9cd9132a2713a2b", func := "loop.example/g01230/laws.FnExactLeastSubcoalgebra", spec := "fnExactLeastSubcoalgebra", unfollowed := true, recurses := true, apart := false }
def FnExactLeastSubcoalgebraSaid : Prop := fnExactLeastSubcoalgebraRow.holds Try.pinned (OpenSpec.ofChange fnExactLeastSubcoalgebraSpec)

/-- ITS FALSE NEIGHBOUR: 'it returns false'. Refute it at one input. -/
def fnExactLeastSubcoalgebraWrong : ChangeSpec := { name := "fnExactLeastSubcoalgebra", fn := fun _ => fun
  | [d1, d2] => { results := [.lit (.bool false)], args := [d1, d2] }
  | _ => none }
def FnExactLeastSubcoalgebraWrongFalsely : Prop := fnExactLeastSubcoalgebraRow.holds Try.pinned (OpenSpec.ofChange fnExactLeastSubcoalgebraWrong)

/-- 'laws.FnExactIsSubcoalgebra': WHATEVER THE INPUT: true; the input reads as it did. -/
def fnExactIsSubcoalgebraSpec : ChangeSpec := { name := "fnExactIsSubcoalgebra", fn := fun _ => fun
  | [d1, d2] => { results := [.lit (.bool true)], args := [d1, d2] }
  | _ => none }
def fnExactIsSubcoalgebraRow : OpenClaim := { program := "ythecjjnieojjoaa", sum := "d3798ee6333c7a136bb9ece7565fa424ab829305fbb23855b9cd9132a2713a2b", func := "loop.example/g01230/laws.FnExactIsSubcoalgebra", spec := "fnExactIsSubcoalgebra", unfollowed := true, recurses := true, apart := false }
def FnExactIsSubcoalgebraSaid : Prop := fnExactIsSubcoalgebraRow.holds Try.pinned (OpenSpec.ofChange fnExactIsSubcoalgebraSpec)

/-- ITS FALSE NEIGHBOUR: 'it returns false'. Refute it at one input. -/
def fnExactIsSubcoalgebraWrong : ChangeSpec := { name := "fnExactIsSubcoalgebra", fn := fun _ => fun
  | [d1, d2] => { results := [.lit (.bool false)], args := [d1, d2] }
  | _ => none }
def FnExactIsSubcoalgebraWrongFalsely : Prop := fnExactIsSubcoalgebraRow.holds Try.pinned (OpenSpec.ofChange fnExactIsSubcoalgebraWrong)

/-- 'laws.FnExactPrimitiveSpace': WHATEVER THE INPUT: true; the input reads as it did. -/
def fnExactPrimitiveSpaceSpec : ChangeSpec := { name := "fnExactPrimitiveSpace", fn := fun _ => fun
  | [d1, d2, d3] => { results := [.lit (.bool true)], args := [d1, d2, d3] }
  | _ => none }
def fnExactPrimitiveSpaceRow : OpenClaim := { program := "ythecjjnieojjoaa", sum := "d3798ee6333c7a136bb9ece7565fa424ab829305fbb23855b9cd9132a2713a2b", func := "loop.example/g01230/laws.FnExactPrimitiveSpace", spec := "fnExactPrimitiveSpace", unfollowed := true, recurses := true, apart := false }
def FnExactPrimitiveSpaceSaid : Prop := fnExactPrimitiveSpaceRow.holds Try.pinned (OpenSpec.ofChange fnExactPrimitiveSpaceSpec)

/-- ITS FALSE NEIGHBOUR: 'it returns false'. Refute it at one input. -/
def fnExactPrimitiveSpaceWrong : ChangeSpec := { name := "fnExactPrimitiveSpace", fn := fun _ => fun
  | [d1, d2, d3] => { results := [.lit (.bool false)], args := [d1, d2, d3] }
  | _ => none }
def FnExactPrimitiveSpaceWrongFalsely : Prop := fnExactPrimitiveSpaceRow.holds Try.pinned (OpenSpec.ofChange fnExactPrimitiveSpaceWrong)

/- THE SECOND FORM. 'bulk': how many values and letters a reading holds, each counted each time it is reached (what is shared counts as often as it is met; a slice's spare places count too). A statement '..UptoSaid' is the law's where the arguments, and the package variables that the reading takes, are together of bulk at most 1048576: NARROWER than '..Said'. Prove '..Said' where nothing that the law and all that it calls make is longer than what came in: it says more and counts as full. Else prove '..UptoSaid'. A law counts once. -/
mutual
def uptoBulk {H : Type} : DataW H → Nat
  | .lit (.string bytes) => bytes.length + 1
  | .lit _ => 1
  | .nil => 1
  | .ptr d => uptoBulk d + 1
  | .slice elems spare => uptoBulkAll elems + uptoBulkAll spare + 1
  | .agg parts => uptoBulkAll parts + 1
  | .iface _ d => uptoBulk d + 1
  | .map entries => uptoBulkEntries entries + 1
  | .held _ => 1
def uptoBulkAll {H : Type} : List (DataW H) → Nat
  | [] => 0
  | d :: r => uptoBulk d + uptoBulkAll r
def uptoBulkEntries {H : Type} : List (Lit × DataW H) → Nat
  | [] => 0
  | x :: r => uptoBulkEntry x + uptoBulkEntries r
def uptoBulkEntry {H : Type} : Lit × DataW H → Nat
  | (.string bytes, d) => bytes.length + uptoBulk d + 1
  | (_, d) => uptoBulk d + 1
 end
def uptoSmall : (H : Type) → List (DataW H) → Bool := fun _ ds => decide (uptoBulkAll ds ≤ 1048576)
def OpenSpec.upto (s : _root_.Go.ChangeSpec) : _root_.Go.OpenSpec := { _root_.Go.OpenSpec.ofChange s with cond := some uptoSmall }

/-- 'laws.FnExactIsCoalgebra', WHERE WHAT IT READS IS OF BULK AT MOST 1048576: true; the input reads as it did. -/
def fnExactIsCoalgebraUptoRow : OpenClaim := { program := "ythecjjnieojjoaa", sum := "d3798ee6333c7a136bb9ece7565fa424ab829305fbb23855b9cd9132a2713a2b", func := "loop.example/g01230/laws.FnExactIsCoalgebra", spec := "fnExactIsCoalgebra", apart := false, narrowed := true }
def FnExactIsCoalgebraUptoSaid : Prop := fnExactIsCoalgebraUptoRow.holds Try.pinned (OpenSpec.upto fnExactIsCoalgebraSpec)

/-- 'laws.FnExactFirstCoFault', WHERE WHAT IT READS IS OF BULK AT MOST 1048576: true; the input reads as it did. -/
def fnExactFirstCoFaultUptoRow : OpenClaim := { program := "ythecjjnieojjoaa", sum := "d3798ee6333c7a136bb9ece7565fa424ab829305fbb23855b9cd9132a2713a2b", func := "loop.example/g01230/laws.FnExactFirstCoFault", spec := "fnExactFirstCoFault", apart := false, narrowed := true }
def FnExactFirstCoFaultUptoSaid : Prop := fnExactFirstCoFaultUptoRow.holds Try.pinned (OpenSpec.upto fnExactFirstCoFaultSpec)

/-- 'laws.FnExactCounitIn', WHERE WHAT IT READS IS OF BULK AT MOST 1048576: true; the input reads as it did. -/
def fnExactCounitInUptoRow : OpenClaim := { program := "ythecjjnieojjoaa", sum := "d3798ee6333c7a136bb9ece7565fa424ab829305fbb23855b9cd9132a2713a2b", func := "loop.example/g01230/laws.FnExactCounitIn", spec := "fnExactCounitIn", unfollowed := true, recurses := true, apart := false, narrowed := true }
def FnExactCounitInUptoSaid : Prop := fnExactCounitInUptoRow.holds Try.pinned (OpenSpec.upto fnExactCounitInSpec)

/-- 'laws.FnExactIsCocommutative', WHERE WHAT IT READS IS OF BULK AT MOST 1048576: true; the input reads as it did. -/
def fnExactIsCocommutativeUptoRow : OpenClaim := { program := "ythecjjnieojjoaa", sum := "d3798ee6333c7a136bb9ece7565fa424ab829305fbb23855b9cd9132a2713a2b", func := "loop.example/g01230/laws.FnExactIsCocommutative", spec := "fnExactIsCocommutative", unfollowed := true, recurses := true, apart := false, narrowed := true }
def FnExactIsCocommutativeUptoSaid : Prop := fnExactIsCocommutativeUptoRow.holds Try.pinned (OpenSpec.upto fnExactIsCocommutativeSpec)

/-- 'laws.FnExactCoproductIn', WHERE WHAT IT READS IS OF BULK AT MOST 1048576: true; the input reads as it did. -/
def fnExactCoproductInUptoRow : OpenClaim := { program := "ythecjjnieojjoaa", sum := "d3798ee6333c7a136bb9ece7565fa424ab829305fbb23855b9cd9132a2713a2b", func := "loop.example/g01230/laws.FnExactCoproductIn", spec := "fnExactCoproductIn", unfollowed := true, recurses := true, apart := false, narrowed := true }
def FnExactCoproductInUptoSaid : Prop := fnExactCoproductInUptoRow.holds Try.pinned (OpenSpec.upto fnExactCoproductInSpec)

/-- 'laws.FnExactDualAlgebra', WHERE WHAT IT READS IS OF BULK AT MOST 1048576: true; the input reads as it did. -/
def fnExactDualAlgebraUptoRow : OpenClaim := { program := "ythecjjnieojjoaa", sum := "d3798ee6333c7a136bb9ece7565fa424ab829305fbb23855b9cd9132a2713a2b", func := "loop.example/g01230/laws.FnExactDualAlgebra", spec := "fnExactDualAlgebra", unfollowed := true, recurses := true, apart := false, narrowed := true }
def FnExactDualAlgebraUptoSaid : Prop := fnExactDualAlgebraUptoRow.holds Try.pinned (OpenSpec.upto fnExactDualAlgebraSpec)

/-- 'laws.FnExactIsGroupLike', WHERE WHAT IT READS IS OF BULK AT MOST 1048576: true; the input reads as it did. -/
def fnExactIsGroupLikeUptoRow : OpenClaim := { program := "ythecjjnieojjoaa", sum := "d3798ee6333c7a136bb9ece7565fa424ab829305fbb23855b9cd9132a2713a2b", func := "loop.example/g01230/laws.FnExactIsGroupLike", spec := "fnExactIsGroupLike", unfollowed := true, recurses := true, apart := false, narrowed := true }
def FnExactIsGroupLikeUptoSaid : Prop := fnExactIsGroupLikeUptoRow.holds Try.pinned (OpenSpec.upto fnExactIsGroupLikeSpec)

/-- 'laws.FnExactGroupLikes', WHERE WHAT IT READS IS OF BULK AT MOST 1048576: true; the input reads as it did. -/
def fnExactGroupLikesUptoRow : OpenClaim := { program := "ythecjjnieojjoaa", sum := "d3798ee6333c7a136bb9ece7565fa424ab829305fbb23855b9cd9132a2713a2b", func := "loop.example/g01230/laws.FnExactGroupLikes", spec := "fnExactGroupLikes", unfollowed := true, recurses := true, apart := false, narrowed := true }
def FnExactGroupLikesUptoSaid : Prop := fnExactGroupLikesUptoRow.holds Try.pinned (OpenSpec.upto fnExactGroupLikesSpec)

/-- 'laws.FnExactUnitMap', WHERE WHAT IT READS IS OF BULK AT MOST 1048576: true; the input reads as it did. -/
def fnExactUnitMapUptoRow : OpenClaim := { program := "ythecjjnieojjoaa", sum := "d3798ee6333c7a136bb9ece7565fa424ab829305fbb23855b9cd9132a2713a2b", func := "loop.example/g01230/laws.FnExactUnitMap", spec := "fnExactUnitMap", apart := false, narrowed := true }
def FnExactUnitMapUptoSaid : Prop := fnExactUnitMapUptoRow.holds Try.pinned (OpenSpec.upto fnExactUnitMapSpec)

/-- 'laws.FnExactLeastSubcoalgebra', WHERE WHAT IT READS IS OF BULK AT MOST 1048576: true; the input reads as it did. -/
def fnExactLeastSubcoalgebraUptoRow : OpenClaim := { program := "ythecjjnieojjoaa", sum := "d3798ee6333c7a136bb9ece7565fa424ab829305fbb23855b9cd9132a2713a2b", func := "loop.example/g01230/laws.FnExactLeastSubcoalgebra", spec := "fnExactLeastSubcoalgebra", unfollowed := true, recurses := true, apart := false, narrowed := true }
def FnExactLeastSubcoalgebraUptoSaid : Prop := fnExactLeastSubcoalgebraUptoRow.holds Try.pinned (OpenSpec.upto fnExactLeastSubcoalgebraSpec)

/-- 'laws.FnExactIsSubcoalgebra', WHERE WHAT IT READS IS OF BULK AT MOST 1048576: true; the input reads as it did. -/
def fnExactIsSubcoalgebraUptoRow : OpenClaim := { program := "ythecjjnieojjoaa", sum := "d3798ee6333c7a136bb9ece7565fa424ab829305fbb23855b9cd9132a2713a2b", func := "loop.example/g01230/laws.FnExactIsSubcoalgebra", spec := "fnExactIsSubcoalgebra", unfollowed := true, recurses := true, apart := false, narrowed := true }
def FnExactIsSubcoalgebraUptoSaid : Prop := fnExactIsSubcoalgebraUptoRow.holds Try.pinned (OpenSpec.upto fnExactIsSubcoalgebraSpec)

/-- 'laws.FnExactPrimitiveSpace', WHERE WHAT IT READS IS OF BULK AT MOST 1048576: true; the input reads as it did. -/
def fnExactPrimitiveSpaceUptoRow : OpenClaim := { program := "ythecjjnieojjoaa", sum := "d3798ee6333c7a136bb9ece7565fa424ab829305fbb23855b9cd9132a2713a2b", func := "loop.example/g01230/laws.FnExactPrimitiveSpace", spec := "fnExactPrimitiveSpace", unfollowed := true, recurses := true, apart := false, narrowed := true }
def FnExactPrimitiveSpaceUptoSaid : Prop := fnExactPrimitiveSpaceUptoRow.holds Try.pinned (OpenSpec.upto fnExactPrimitiveSpaceSpec)

end Rows
end Go.Proofs.Ythecjjnieojjoaa
