import Derived.Test.YtoeailachidcdaaGreatDoorHgBase
namespace Go.Proofs.YtoeailachidcdaaGreatDoor.Hg
set_option linter.unusedVariables false
set_option linter.unusedSimpArgs false
set_option linter.unusedSectionVars false
open Go Go.RowKit
variable [Gl : Glob]
inductive ZF
  | int (k : IntKind)
  | run (k : IntKind) (n : Nat)
  | nils
  | str
  | bool
inductive Lay
  | int (k : IntKind)
  | bool
  | str
  | func
  | ptr
  | slice (elem : TypeId) (esz ebytes : Nat)
  | arr (len : Nat) (elem : TypeId) (esz : Nat) (k : IntKind)
  | struct (fs : List (Nat × Nat × Bool)) (rs : List (IntKind × Nat))
  | mix (fs : List (Nat × Nat × Bool)) (zs : List ZF)
  | barr (len : Nat) (elem : TypeId)
  | other
def zruns0 (rs : List (IntKind × Nat)) : List Run := rs.map fun (k, n) => ⟨k, n, fun _ => 0⟩
def zrun (k : IntKind) : Nat → List Value → Option (List Value)
  | 0, l => some l
  | n + 1, .int k' z :: l => if k = k' ∧ z = 0 then zrun k n l else none
  | _ + 1, _ => none
def zruns : List (IntKind × Nat) → List Value → Bool
  | [], l => l.isEmpty
  | (k, n) :: r, l => match zrun k n l with
    | some l' => zruns r l'
    | none => false
theorem zrun_eq {k : IntKind} : ∀ {n : Nat} {l l' : List Value}, zrun k n l = some l' → l = List.replicate n (.int k 0) ++ l'
  | 0, l, l', h => by simp [zrun] at h; simp [h]
  | n + 1, [], l', h => by simp [zrun] at h
  | n + 1, v :: l, l', h => by
    cases v <;> simp [zrun] at h
    obtain ⟨⟨rfl, rfl⟩, h⟩ := h
    rw [zrun_eq h]; simp [List.replicate_succ]
theorem cells_zero (k : IntKind) (n : Nat) : Run.cells ⟨k, n, fun _ => 0⟩ = List.replicate n (.int k 0) := by
  apply List.ext_getElem <;> simp [Run.cells]
theorem zruns_eq : ∀ {rs : List (IntKind × Nat)} {l : List Value}, zruns rs l = true → l = cellsOf (zruns0 rs)
  | [], l, h => by simp [zruns] at h; simp [h, zruns0, cellsOf]
  | (k, n) :: r, l, h => by
    simp only [zruns] at h
    split at h
    · rename_i l' he
      rw [zrun_eq he, zruns_eq h]
      simp [zruns0, cellsOf, cells_zero]
    · cases h
def intArr (P : Program) (k : IntKind) : Nat → TypeId → Option Nat
  | 0, _ => none
  | d + 1, t => match P.underlying t with
    | some (.int k') => if k = k' ∧ (P.info? t).map (·.size) = some 1 then some 1 else none
    | some (.array len e) => match intArr P k d e with
      | some m => if (P.info? t).map (·.size) = some (len * m) ∧ (P.info? e).map (·.size) = some m then some (len * m) else none
      | none => none
    | _ => none
def zeroIs (P : Program) (t : TypeId) (rs : List (IntKind × Nat)) : Bool :=
  match (P.info? t).bind (·.zero) with
  | some (.agg cs) => zruns rs cs.toList
  | _ => false
def aggT (P : Program) (t : TypeId) : Bool :=
  match P.underlying t with
  | some (.struct _) | some (.array _ _) => true
  | _ => false
def fieldsAre (P : Program) : List Field → List (Nat × Nat × Bool) → Bool
  | [], [] => true
  | f :: fs, (o, n, b) :: gs => f.offset == o && (P.info? f.type).map (·.size) == some n && n != 0 && aggT P f.type == b && (P.underlying f.type).isSome && fieldsAre P fs gs
  | _, _ => false
def ZF.av : ZF → AV
  | .int k => .int k 0
  | .run k n => .agg [⟨k, n, fun _ => 0⟩]
  | .nils => .nils
  | .str => .str ByteArray.empty
  | .bool => .bool false
def ZF.size : ZF → Nat
  | .run _ n => n
  | _ => 1
def zfs : List ZF → List Value → Bool
  | [], l => l.isEmpty
  | .int k :: r, .int k' z :: l => k == k' && z == 0 && zfs r l
  | .run k n :: r, l => match zrun k n l with | some l' => zfs r l' | none => false
  | .nils :: r, .slice none n c :: l => n == 0 && c == 0 && zfs r l
  | .str :: r, .string s :: l => s.size == 0 && zfs r l
  | .bool :: r, .bool b :: l => b == false && zfs r l
  | _, _ => false
theorem zfs_ok : ∀ {zs : List ZF} {l : List Value}, zfs zs l = true → ∃ xs : List Value, l = xs.flatMap (fun x => x.cells.toList) ∧ ∀ β, all2 (AV.rel1 β) (zs.map ZF.av) xs
  | [], l, h => by
    simp [zfs] at h; subst h
    exact ⟨[], rfl, fun _ => trivial⟩
  | .run k n :: r, l, h => by
    simp only [zfs] at h
    split at h
    · rename_i l' he
      obtain ⟨xs, h1, h2⟩ := zfs_ok h
      refine ⟨.agg (List.replicate n (.int k 0)).toArray :: xs, ?_, fun β => ⟨?_, h2 β⟩⟩
      · rw [zrun_eq he, h1]; simp [Value.cells]
      · simp [ZF.av, AV.rel1, cellsOf, cells_zero]
    · cases h
  | .int k :: r, [], h => by simp [zfs] at h
  | .nils :: r, [], h => by simp [zfs] at h
  | .str :: r, [], h => by simp [zfs] at h
  | .bool :: r, [], h => by simp [zfs] at h
  | .int k :: r, v :: l, h => by
    cases v <;> simp [zfs] at h
    obtain ⟨⟨rfl, rfl⟩, h⟩ := h
    obtain ⟨xs, h1, h2⟩ := zfs_ok h
    exact ⟨.int k 0 :: xs, by simp [h1, Value.cells], fun β => ⟨rfl, h2 β⟩⟩
  | .nils :: r, v :: l, h => by
    have h' : ∃ n c, v = .slice none n c ∧ (n == 0 && c == 0 && zfs r l) = true := by
      unfold zfs at h
      split at h <;> first | cases h | simp_all
    clear h
    obtain ⟨n, c, rfl, h⟩ := h'
    simp only [Bool.and_eq_true, beq_iff_eq] at h
    obtain ⟨⟨rfl, rfl⟩, h⟩ := h
    obtain ⟨xs, h1, h2⟩ := zfs_ok h
    exact ⟨.slice none 0 0 :: xs, by simp [h1, Value.cells], fun β => ⟨rfl, h2 β⟩⟩
  | .str :: r, v :: l, h => by
    cases v <;> simp [zfs] at h
    rename_i s
    obtain ⟨h3, h⟩ := h
    obtain ⟨xs, h1, h2⟩ := zfs_ok h
    subst h3
    exact ⟨.string ByteArray.empty :: xs, by simp [h1, Value.cells], fun β => ⟨rfl, h2 β⟩⟩
  | .bool :: r, v :: l, h => by
    cases v <;> simp [zfs] at h
    obtain ⟨rfl, h⟩ := h
    obtain ⟨xs, h1, h2⟩ := zfs_ok h
    exact ⟨.bool false :: xs, by simp [h1, Value.cells], fun β => ⟨rfl, h2 β⟩⟩
def zbools : List Value → Bool
  | [] => true
  | .bool b :: l => b == false && zbools l
  | _ => false
theorem zbools_eq : ∀ {l : List Value}, zbools l = true → l = List.replicate l.length (.bool false)
  | [], _ => rfl
  | v :: l, h => by
    cases v <;> simp [zbools] at h
    obtain ⟨rfl, h⟩ := h
    rw [List.length_cons, List.replicate_succ, ← zbools_eq h]
def zplaces : Nat → List (Nat × Nat × Bool) → List ZF → Bool
  | _, [], [] => true
  | o, (c, m, _) :: fs, z :: zs => c == o && m == z.size && zplaces (o + m) fs zs
  | _, _, _ => false
def total (rs : List (IntKind × Nat)) : Nat := (rs.map (·.2)).sum
def Lay.chk (P : Program) (t : TypeId) : Lay → Bool
  | .int k => (match P.underlying t with | some (.int k') => k == k' | _ => false) && (match P.info? t with | some i => i.size == 1 && (match i.zero with | some (.int k' z) => k == k' && z == 0 | _ => false) | none => false)
  | .bool => (match P.underlying t with | some .bool => true | _ => false) && (match P.info? t with | some i => i.size == 1 && (match i.zero with | some (.bool b) => b == false | _ => false) | none => false)
  | .str => (match P.underlying t with | some .string => true | _ => false) && (match P.info? t with | some i => i.size == 1 && (match i.zero with | some (.string s) => s.size == 0 | _ => false) | none => false)
  | .func => (match P.underlying t with | some (.func _ _ _) => true | _ => false) && (match P.info? t with | some i => i.size == 1 && (match i.zero with | some .nilFunc => true | _ => false) | none => false)
  | .ptr => (match P.underlying t with | some (.pointer _) => true | _ => false) && (match P.info? t with | some i => i.size == 1 && (match i.zero with | some (.pointer none) => true | _ => false) | none => false)
  | .slice e n m => (match P.underlying t with | some (.slice e') => e == e' | _ => false) && (match P.info? t with | some i => i.size == 1 && (match i.zero with | some (.slice none l c) => l == 0 && c == 0 | _ => false) | none => false) &&
      (match P.info? e with | some i => i.size == n && i.bytes == m && n != 0 && (match i.zero with | some z => z.cells.size == n | none => false) | none => false)
  | .arr len e n k => (match P.underlying t with | some (.array len' e') => len == len' && e == e' | _ => false) && (match P.info? t with | some i => i.size == len * n | none => false) &&
      (match P.info? e with | some i => i.size == n | none => false) && zeroIs P t [(k, len * n)] && intArr P k 10 t == some (len * n) && n != 0 && len != 0 && len * n != 0
  | .struct fs rs => (match P.underlying t with | some (.struct gs) => fieldsAre P gs.toList fs | _ => false) && zeroIs P t rs && (match P.info? t with | some i => i.size == total rs | none => false) && rs.all (fun r => r.2 != 0)
  | .mix fs zs => (match P.underlying t with | some (.struct gs) => fieldsAre P gs.toList fs | _ => false) && (match P.info? t with | some i => i.size == (zs.map ZF.size).sum && (match i.zero with | some (.agg cs) => zfs zs cs.toList | _ => false) | none => false) && zplaces 0 fs zs && !zs.isEmpty
  | .barr len e => (match P.underlying t with | some (.array len' e') => len == len' && e == e' | _ => false) && (match P.info? t with | some i => i.size == len && (match i.zero with | some (.agg cs) => cs.size == len && zbools cs.toList | _ => false) | none => false) && (match P.info? e with | some i => i.size == 1 | none => false) && len != 0
  | .other => true
def laysOk (P : Program) (ls : List Lay) : Bool := ls.zipIdx.all fun (l, t) => l.chk P t
theorem laysOk_at {P : Program} {ls : List Lay} (h : laysOk P ls = true) {t : TypeId} {l : Lay} (ht : ls[t]? = some l) : l.chk P t = true := by
  unfold laysOk at h
  rw [List.all_eq_true] at h
  exact h (l, t) (List.mem_zipIdx_iff_getElem?.2 (by simpa using ht))
end Go.Proofs.YtoeailachidcdaaGreatDoor.Hg
