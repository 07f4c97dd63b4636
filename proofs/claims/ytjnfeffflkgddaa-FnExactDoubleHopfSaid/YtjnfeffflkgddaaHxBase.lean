/- Abstract states of the walk: cell runs, values, blocks of memory, and how they stand to the model's own. No program is named here. -/
import Derived.Orders
import Derived.LoopN
import Derived.Below
import Derived.KernelRfl
namespace Go.Proofs.Ytjnfeffflkgddaa.Hx
set_option linter.unusedVariables false
set_option linter.unusedSimpArgs false
open Go Go.RowKit

/-- A run of whole numbers of one kind that lie side by side. -/
structure Run where
  kind : IntKind
  size : Nat
  get : Nat → Int

def Run.cells (r : Run) : List Value := (List.range r.size).map fun i => .int r.kind (r.get i)
def cellsOf (rs : List Run) : List Value := rs.flatMap Run.cells

theorem Run.cells_length (r : Run) : r.cells.length = r.size := by simp [Run.cells]
theorem Run.cells_get (r : Run) {i : Nat} (h : i < r.size) : r.cells[i]? = some (.int r.kind (r.get i)) := by
  simp [Run.cells, h]

/-- Where a block of the abstract memory lies: a window of 'cells' cells from 'base' on in the model's block 'blk'. -/
structure Loc where
  blk : Nat
  base : Nat
  cells : Nat

def Loc.at (L : Loc) (o : Nat) : Addr := ⟨L.blk, L.base + o, none⟩

abbrev Names := Nat → Option Loc

/-- Abstract values. 'ptr b o n': n cells from o on in block b. 'sptr': a whole variable: its runs, each a block of its own (name, cells). -/
inductive AV where
  | int (k : IntKind) (n : Int)
  | bool (b : Bool)
  | str (s : ByteArray)
  | agg (rs : List Run)
  | ptr (b o n : Nat)
  | sptr (bs : List (Nat × Nat))
  | slice (b o len : Nat) (cap : Option Nat) (esz : Nat)
  | nils
  | fn (f : FuncId) (k : Nat) (caps : List (List (Nat × Nat)))
  | tup (vs : List AV)
  | any

inductive Cont where
  | ints (k : IntKind) (n : Nat) (g : Nat → Int)
  | avs (vs : List AV)
  | dead

structure Blk where
  rw : Bool
  c : Cont

abbrev Heap := List Blk

def chained (β : Names) (blk base : Nat) : List (Nat × Nat) → Prop
  | [] => True
  | (b, n) :: r => β b = some ⟨blk, base, n⟩ ∧ chained β blk (base + n) r

def ptrRel (β : Names) (bs : List (Nat × Nat)) (v : Value) : Prop :=
  bs ≠ [] ∧ ∃ blk base, v = .pointer (some ⟨blk, base, none⟩) ∧ chained β blk base bs

def all2 {α γ : Type} (R : α → γ → Prop) : List α → List γ → Prop
  | [], [] => True
  | a :: as, c :: cs => R a c ∧ all2 R as cs
  | _, _ => False

def AV.rel1 (β : Names) : AV → Value → Prop
  | .int k n, v => v = .int k n
  | .bool b, v => v = .bool b
  | .str s, v => v = .string s
  | .agg rs, v => v = .agg (cellsOf rs).toArray
  | .ptr b o n, v => ∃ L, β b = some L ∧ v = .pointer (some (L.at o)) ∧ o + n ≤ L.cells
  | .sptr bs, v => ptrRel β bs v
  | .slice b o len cap esz, v => ∃ L a c, β b = some L ∧ v = .slice (some a) len c ∧ len ≤ c ∧ (c = 0 ∨ a = L.at o) ∧
      (match cap with | some c0 => c = c0 ∧ o + c0 * esz ≤ L.cells | none => o + len * esz ≤ L.cells)
  | .nils, v => v = .slice none 0 0
  | .fn f k caps, v => ∃ vs : List Value, v = .func (.func f) (vs.take k).toArray (vs.drop k).toArray ∧ all2 (ptrRel β) caps vs
  | .tup _, _ => False
  | .any, _ => True

def AV.rel (β : Names) : AV → Value → Prop
  | .tup vs, v => ∃ xs : List Value, v = .tuple xs.toArray ∧ all2 (AV.rel1 β) vs xs
  | a, v => AV.rel1 β a v

/-- 'γ' knows what 'β' knows. -/
def Names.le (β γ : Names) : Prop := ∀ b L, β b = some L → γ b = some L
theorem Names.le_refl (β : Names) : β.le β := fun _ _ h => h
theorem Names.le_trans {β γ δ : Names} (h : β.le γ) (k : γ.le δ) : β.le δ := fun b L e => k b L (h b L e)

theorem chained_le {β γ : Names} (h : β.le γ) : ∀ {bs : List (Nat × Nat)} {blk base : Nat}, chained β blk base bs → chained γ blk base bs
  | [], _, _, _ => trivial
  | (_, _) :: _, _, _, ⟨h1, h2⟩ => ⟨h _ _ h1, chained_le h h2⟩

theorem ptrRel_le {β γ : Names} (h : β.le γ) {bs : List (Nat × Nat)} {v : Value} (p : ptrRel β bs v) : ptrRel γ bs v := by
  obtain ⟨h1, blk, base, h2, h3⟩ := p
  exact ⟨h1, blk, base, h2, chained_le h h3⟩

theorem all2_mono {α γ : Type} {R S : α → γ → Prop} (h : ∀ a c, R a c → S a c) : ∀ {as : List α} {cs : List γ}, all2 R as cs → all2 S as cs
  | [], [], _ => trivial
  | _ :: _, _ :: _, ⟨h1, h2⟩ => ⟨h _ _ h1, all2_mono h h2⟩
  | [], _ :: _, h => h.elim
  | _ :: _, [], h => h.elim

theorem all2_take {α γ : Type} {R : α → γ → Prop} : ∀ (m : Nat) {as : List α} {cs : List γ}, all2 R as cs → all2 R (as.take m) (cs.take m)
  | 0, _, _, _ => by simp [all2]
  | m + 1, [], [], _ => trivial
  | m + 1, _ :: _, _ :: _, ⟨h1, h2⟩ => ⟨h1, all2_take m h2⟩
  | _ + 1, [], _ :: _, h => h.elim
  | _ + 1, _ :: _, [], h => h.elim

theorem all2_drop {α γ : Type} {R : α → γ → Prop} : ∀ (m : Nat) {as : List α} {cs : List γ}, all2 R as cs → all2 R (as.drop m) (cs.drop m)
  | 0, _, _, h => h
  | m + 1, [], [], _ => trivial
  | m + 1, _ :: _, _ :: _, ⟨_, h2⟩ => all2_drop m h2
  | _ + 1, [], _ :: _, h => h.elim
  | _ + 1, _ :: _, [], h => h.elim

theorem AV.rel1_le {β γ : Names} (h : β.le γ) {a : AV} {v : Value} (r : a.rel1 β v) : a.rel1 γ v := by
  cases a <;> simp only [AV.rel1] at r ⊢ <;> try exact r
  · obtain ⟨L, h1, h2⟩ := r; exact ⟨L, h _ _ h1, h2⟩
  · exact ptrRel_le h r
  · obtain ⟨L, a, c, h1, h2⟩ := r; exact ⟨L, a, c, h _ _ h1, h2⟩
  · obtain ⟨vs, h1, h2⟩ := r; exact ⟨vs, h1, all2_mono (fun _ _ p => ptrRel_le h p) h2⟩

theorem AV.rel_le {β γ : Names} (h : β.le γ) {a : AV} {v : Value} (r : a.rel β v) : a.rel γ v := by
  cases a
  case tup vs => obtain ⟨xs, h1, h2⟩ := r; exact ⟨xs, h1, all2_mono (fun _ _ p => AV.rel1_le h p) h2⟩
  all_goals (simp only [AV.rel] at r ⊢; exact AV.rel1_le h r)

/-- A block of the abstract memory, in a world. -/
def Blk.rel (β : Names) (L : Loc) (x : Blk) (w : World) : Prop :=
  match x.c with
  | .ints k n g => n = L.cells ∧ ∀ i, i < n → w.cell? (L.at i) = some (.int k (g i)) ∧ (x.rw = true → w.frozen? (L.at i) = false)
  | .avs vs => vs.length = L.cells ∧ ∀ i v, vs[i]? = some v → ∃ u, w.cell? (L.at i) = some u ∧ v.rel1 β u ∧ (x.rw = true → w.frozen? (L.at i) = false)
  | .dead => True

def Blk.ext (x : Blk) (L : Loc) : Nat := match x.c with | .dead => 0 | _ => L.cells

def Loc.apart (L : Loc) (n : Nat) (M : Loc) (m : Nat) : Prop := ∀ i j, i < n → j < m → L.blk = M.blk → L.base + i ≠ M.base + j

structure HRel (β : Names) (h : Heap) (w : World) : Prop where
  blk : ∀ b x, h[b]? = some x → x.c ≠ .dead → ∃ L, β b = some L ∧ x.rel β L w
  disj : ∀ b b' x x' L L', b ≠ b' → h[b]? = some x → h[b']? = some x' → β b = some L → β b' = some L' → x.rw = true → L.apart (x.ext L) L' (x'.ext L')
  fresh : ∀ b, h.length ≤ b → β b = none

/-- The addresses that the abstract memory may write. -/
def Mine (β : Names) (h : Heap) (a : Addr) : Prop := ∃ b x L i, h[b]? = some x ∧ x.rw = true ∧ β b = some L ∧ i < x.ext L ∧ a.block = L.blk ∧ a.off = L.base + i

/-- From w to w': nothing that was there has turned but what M holds. -/
structure Ext (M : Addr → Prop) (w w' : World) : Prop where
  os : w'.os = w.os
  tape : w'.tape = w.tape
  output : w'.output = w.output
  size : w.heap.size ≤ w'.heap.size
  obj : ∀ B, B < w.heap.size → (∀ a : Addr, a.block = B → ¬ M a) → w'.heap[B]? = w.heap[B]?
  cell : ∀ a : Addr, a.block < w.heap.size → ¬ M a → w'.cell? a = w.cell? a
  froz : ∀ a : Addr, a.block < w.heap.size → w'.frozen? a = w.frozen? a

theorem Ext.refl (M : Addr → Prop) (w : World) : Ext M w w := ⟨rfl, rfl, rfl, Nat.le_refl _, fun _ _ _ => rfl, fun _ _ _ => rfl, fun _ _ => rfl⟩

theorem Ext.trans {M N : Addr → Prop} {a b c : World} (h : Ext M a b) (k : Ext N b c) (hn : ∀ x, N x → M x ∨ a.heap.size ≤ x.block) : Ext M a c where
  os := k.os.trans h.os
  tape := k.tape.trans h.tape
  output := k.output.trans h.output
  size := Nat.le_trans h.size k.size
  obj := fun B hB hM => by
    rw [k.obj B (Nat.lt_of_lt_of_le hB h.size) (fun x hx hN => ?_), h.obj B hB hM]
    rcases hn x hN with h1 | h1
    · exact hM x hx h1
    · omega
  cell := fun x hx hM => by
    rw [k.cell x (Nat.lt_of_lt_of_le hx h.size) (fun hN => ?_), h.cell x hx hM]
    rcases hn x hN with h1 | h1
    · exact hM h1
    · omega
  froz := fun x hx => by rw [k.froz x (Nat.lt_of_lt_of_le hx h.size), h.froz x hx]

theorem Ext.mono {M N : Addr → Prop} {a b : World} (h : Ext M a b) (hn : ∀ x, M x → N x) : Ext N a b :=
  ⟨h.os, h.tape, h.output, h.size, fun B hB hM => h.obj B hB (fun x hx hm => hM x hx (hn x hm)), fun x hx hN => h.cell x hx (fun hm => hN (hn x hm)), h.froz⟩

theorem Ext.of_below {M : Addr → Prop} {w w' : World} (h : Below w.heap.size w w') : Ext M w w' :=
  ⟨h.os, h.tape, h.output, h.size, fun B hB _ => h.block B hB, fun a ha _ => h.cell ha, fun a ha => h.frozen ha⟩

theorem Ext.drew {M : Addr → Prop} {w w' : World} (h : Ext M w w') : Ext M w w'.drew := ⟨h.os, h.tape, h.output, h.size, h.obj, h.cell, h.froz⟩

/-- Where nothing may be written all that was there is as it was. -/
theorem Ext.below {w w' : World} {M : Addr → Prop} (h : Ext M w w') (hM : ∀ a, ¬ M a) : Below w.heap.size w w' :=
  ⟨h.os, h.tape, h.output, h.size, fun B hB => h.obj B hB fun a _ => hM a⟩

theorem Blk.rel_names {β γ : Names} (h : β.le γ) {L : Loc} {x : Blk} {w : World} (r : x.rel β L w) : x.rel γ L w := by
  unfold Blk.rel at *
  split
  · rename_i hc; rw [hc] at r; exact r
  · rename_i hc; rw [hc] at r
    exact ⟨r.1, fun i v hv => let ⟨u, h1, h2, h3⟩ := r.2 i v hv; ⟨u, h1, AV.rel1_le h h2, h3⟩⟩
  · trivial

/-- A window reads as it did where its cells do. -/
theorem Blk.rel_world {β : Names} {L : Loc} {x : Blk} {w w' : World} (r : x.rel β L w) (hc : ∀ i, i < x.ext L → w'.cell? (L.at i) = w.cell? (L.at i)) (hf : ∀ i, i < x.ext L → w'.frozen? (L.at i) = w.frozen? (L.at i)) : x.rel β L w' := by
  unfold Blk.rel at *
  split
  · rename_i hx; rw [hx] at r
    refine ⟨r.1, fun i hi => ?_⟩
    have he : i < x.ext L := by rw [Blk.ext, hx]; exact r.1 ▸ hi
    rw [hc i he, hf i he]; exact r.2 i hi
  · rename_i hx; rw [hx] at r
    refine ⟨r.1, fun i v hv => ?_⟩
    have hl : i < L.cells := by rw [← r.1]; exact (List.getElem?_eq_some_iff.1 hv).1
    have he : i < x.ext L := by rw [Blk.ext, hx]; exact hl
    rw [hc i he, hf i he]; exact r.2 i v hv
  · trivial

theorem Blk.rel_cell {β : Names} {L : Loc} {x : Blk} {w : World} (r : x.rel β L w) {i : Nat} (h : i < x.ext L) : ∃ u, w.cell? (L.at i) = some u := by
  unfold Blk.rel at r
  unfold Blk.ext at h
  split at r
  · rename_i hc; simp only [hc] at h; exact ⟨_, (r.2 i (by omega)).1⟩
  · rename_i vs hc
    simp only [hc] at h
    have hl : i < vs.length := by omega
    obtain ⟨u, h1, _⟩ := r.2 i vs[i] (List.getElem?_eq_getElem hl)
    exact ⟨u, h1⟩
  · rename_i hc; simp [hc] at h

/-- A state: the slots and the memory. -/
structure St where
  t : List AV
  h : Heap

structure Rel (β : Names) (s : St) (a : Act) (w : World) : Prop where
  len : a.tmps.size = s.t.length
  val : ∀ (i : Nat) (v : AV), s.t[i]? = some v → v.rel β (a.tmps.getD i undef)
  defers : a.defers = []
  heap : HRel β s.h w

theorem HRel.drew {β : Names} {h : Heap} {w : World} (r : HRel β h w) : HRel β h w.drew := ⟨fun b x hb hx => r.blk b x hb hx, r.disj, r.fresh⟩
theorem Rel.drew {β : Names} {s : St} {a : Act} {w : World} (r : Rel β s a w) : Rel β s a w.drew := ⟨r.len, r.val, r.defers, r.heap.drew⟩

end Go.Proofs.Ytjnfeffflkgddaa.Hx
