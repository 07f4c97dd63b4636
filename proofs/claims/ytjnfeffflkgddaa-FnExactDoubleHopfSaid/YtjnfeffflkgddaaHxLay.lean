/- What the walk knows of a program's types: for each type how its values lie in cells. A closed check against the program's own table. -/
import Derived.Test.YtjnfeffflkgddaaHxBase
namespace Go.Proofs.Ytjnfeffflkgddaa.Hx
set_option linter.unusedVariables false
set_option linter.unusedSimpArgs false
open Go Go.RowKit

inductive Lay
  | int (k : IntKind)
  | bool
  | str
  | func
  | ptr
  | slice (elem : TypeId) (esz ebytes : Nat)
  | arr (len : Nat) (elem : TypeId) (esz : Nat) (k : IntKind)
  | struct (fs : List (Nat × Nat × Bool)) (rs : List (IntKind × Nat))
  | other

def zruns0 (rs : List (IntKind × Nat)) : List Run := rs.map fun (k, n) => ⟨k, n, fun _ => 0⟩

def zrun (k : IntKind) : Nat → List Value → Option (List Value)
  | 0, l => some l
  | n + 1, .int k' z :: l => if k = k' ∧ z = 0 then zrun k n l else none
  | _ + 1, _ => none

def zruns : List (IntKind × Nat) → List Value → Bool
  | [], l => l.isEmpty
  | (k, n) :: r, l => match zrun k n l with
    | some l' => zruns r l'
    | none => false

theorem zrun_eq {k : IntKind} : ∀ {n : Nat} {l l' : List Value}, zrun k n l = some l' → l = List.replicate n (.int k 0) ++ l'
  | 0, l, l', h => by simp [zrun] at h; simp [h]
  | n + 1, [], l', h => by simp [zrun] at h
  | n + 1, v :: l, l', h => by
    cases v <;> simp [zrun] at h
    obtain ⟨⟨rfl, rfl⟩, h⟩ := h
    rw [zrun_eq h]; simp [List.replicate_succ]

theorem cells_zero (k : IntKind) (n : Nat) : Run.cells ⟨k, n, fun _ => 0⟩ = List.replicate n (.int k 0) := by
  apply List.ext_getElem <;> simp [Run.cells]

theorem zruns_eq : ∀ {rs : List (IntKind × Nat)} {l : List Value}, zruns rs l = true → l = cellsOf (zruns0 rs)
  | [], l, h => by simp [zruns] at h; simp [h, zruns0, cellsOf]
  | (k, n) :: r, l, h => by
    simp only [zruns] at h
    split at h
    · rename_i l' he
      rw [zrun_eq he, zruns_eq h]
      simp [zruns0, cellsOf, cells_zero]
    · cases h

/-- An array (of arrays ..) of whole numbers: how many cells. -/
def intArr (P : Program) (k : IntKind) : Nat → TypeId → Option Nat
  | 0, _ => none
  | d + 1, t => match P.underlying t with
    | some (.int k') => if k = k' ∧ (P.info? t).map (·.size) = some 1 then some 1 else none
    | some (.array len e) => match intArr P k d e with
      | some m => if (P.info? t).map (·.size) = some (len * m) ∧ (P.info? e).map (·.size) = some m then some (len * m) else none
      | none => none
    | _ => none

def zeroIs (P : Program) (t : TypeId) (rs : List (IntKind × Nat)) : Bool :=
  match (P.info? t).bind (·.zero) with
  | some (.agg cs) => zruns rs cs.toList
  | _ => false

def aggT (P : Program) (t : TypeId) : Bool :=
  match P.underlying t with
  | some (.struct _) | some (.array _ _) => true
  | _ => false

def fieldsAre (P : Program) : List Field → List (Nat × Nat × Bool) → Bool
  | [], [] => true
  | f :: fs, (o, n, b) :: gs => f.offset == o && (P.info? f.type).map (·.size) == some n && n != 0 && aggT P f.type == b && (P.underlying f.type).isSome && fieldsAre P fs gs
  | _, _ => false

def total (rs : List (IntKind × Nat)) : Nat := (rs.map (·.2)).sum

def Lay.chk (P : Program) (t : TypeId) : Lay → Bool
  | .int k => (match P.underlying t with | some (.int k') => k == k' | _ => false) && (match P.info? t with | some i => i.size == 1 && (match i.zero with | some (.int k' z) => k == k' && z == 0 | _ => false) | none => false)
  | .bool => (match P.underlying t with | some .bool => true | _ => false) && (match P.info? t with | some i => i.size == 1 && (match i.zero with | some (.bool b) => b == false | _ => false) | none => false)
  | .str => (match P.underlying t with | some .string => true | _ => false) && (match P.info? t with | some i => i.size == 1 && (match i.zero with | some (.string s) => s.size == 0 | _ => false) | none => false)
  | .func => (match P.underlying t with | some (.func _ _ _) => true | _ => false) && (match P.info? t with | some i => i.size == 1 && (match i.zero with | some .nilFunc => true | _ => false) | none => false)
  | .ptr => (match P.underlying t with | some (.pointer _) => true | _ => false) && (match P.info? t with | some i => i.size == 1 && (match i.zero with | some (.pointer none) => true | _ => false) | none => false)
  | .slice e n m => (match P.underlying t with | some (.slice e') => e == e' | _ => false) && (match P.info? t with | some i => i.size == 1 && (match i.zero with | some (.slice none l c) => l == 0 && c == 0 | _ => false) | none => false) &&
      (match P.info? e with | some i => i.size == n && i.bytes == m && n != 0 && (match i.zero with | some z => z.cells.size == n | none => false) | none => false)
  | .arr len e n k => (match P.underlying t with | some (.array len' e') => len == len' && e == e' | _ => false) && (match P.info? t with | some i => i.size == len * n | none => false) &&
      (match P.info? e with | some i => i.size == n | none => false) && zeroIs P t [(k, len * n)] && intArr P k 10 t == some (len * n) && n != 0 && len != 0 && len * n != 0
  | .struct fs rs => (match P.underlying t with | some (.struct gs) => fieldsAre P gs.toList fs | _ => false) && zeroIs P t rs && (match P.info? t with | some i => i.size == total rs | none => false) && rs.all (fun r => r.2 != 0)
  | .other => true

def laysOk (P : Program) (ls : List Lay) : Bool := ls.zipIdx.all fun (l, t) => l.chk P t

theorem laysOk_at {P : Program} {ls : List Lay} (h : laysOk P ls = true) {t : TypeId} {l : Lay} (ht : ls[t]? = some l) : l.chk P t = true := by
  unfold laysOk at h
  rw [List.all_eq_true] at h
  exact h (l, t) (List.mem_zipIdx_iff_getElem?.2 (by simpa using ht))

end Go.Proofs.Ytjnfeffflkgddaa.Hx
