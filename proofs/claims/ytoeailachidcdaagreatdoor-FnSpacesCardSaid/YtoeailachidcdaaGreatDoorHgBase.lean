import Derived.Orders
import Derived.LoopN
import Derived.Below
import Derived.KernelRfl
namespace Go.Proofs.YtoeailachidcdaaGreatDoor.Hg
set_option linter.unusedVariables false
set_option linter.unusedSimpArgs false
set_option linter.unusedSectionVars false
open Go Go.RowKit
structure Run where
  kind : IntKind
  size : Nat
  get : Nat → Int
def Run.cells (r : Run) : List Value := (List.range r.size).map fun i => .int r.kind (r.get i)
def cellsOf (rs : List Run) : List Value := rs.flatMap Run.cells
theorem Run.cells_length (r : Run) : r.cells.length = r.size := by simp [Run.cells]
theorem Run.cells_get (r : Run) {i : Nat} (h : i < r.size) : r.cells[i]? = some (.int r.kind (r.get i)) := by
  simp [Run.cells, h]
structure Loc where
  pl : Nat → Option (Nat × Nat)
  sp : Nat → Nat → Prop
def Loc.grow (blk base n m : Nat) : Loc := ⟨fun i => if i < n then some (blk, base + i) else none, fun B X => B = blk ∧ base + n ≤ X ∧ X < base + m⟩
def Loc.lin (blk base n : Nat) : Loc := Loc.grow blk base n n
def Loc.own (L : Loc) (B X : Nat) : Prop := (∃ i, L.pl i = some (B, X)) ∨ L.sp B X
def Loc.span (L : Loc) (o n B X : Nat) : Prop := ∀ j, j < n → L.pl (o + j) = some (B, X + j)
def Loc.inj (L : Loc) : Prop := (∀ i j p, L.pl i = some p → L.pl j = some p → i = j) ∧ ∀ i B X, L.pl i = some (B, X) → ¬ L.sp B X
theorem Loc.lin_pl {blk base n i : Nat} {p : Nat × Nat} : (Loc.lin blk base n).pl i = some p ↔ i < n ∧ p = (blk, base + i) := by
  simp only [Loc.lin, Loc.grow]
  split
  · rename_i h; simp [h, eq_comm]
  · rename_i h; simp [h]
theorem Loc.grow_pl {blk base n m i : Nat} {p : Nat × Nat} : (Loc.grow blk base n m).pl i = some p ↔ i < n ∧ p = (blk, base + i) := by
  simp only [Loc.grow]
  split
  · rename_i h; simp [h, eq_comm]
  · rename_i h; simp [h]
theorem Loc.lin_own {blk base n B X : Nat} : (Loc.lin blk base n).own B X ↔ B = blk ∧ base ≤ X ∧ X < base + n := by
  constructor
  · rintro (⟨i, h⟩ | h)
    · obtain ⟨h1, h2⟩ := Loc.lin_pl.1 h
      simp only [Prod.mk.injEq] at h2
      omega
    · simp only [Loc.lin, Loc.grow] at h; omega
  · rintro ⟨rfl, h1, h2⟩
    exact .inl ⟨X - base, Loc.lin_pl.2 ⟨by omega, by simp; omega⟩⟩
theorem Loc.grow_own {blk base n m B X : Nat} (h : n ≤ m) : (Loc.grow blk base n m).own B X ↔ B = blk ∧ base ≤ X ∧ X < base + m := by
  constructor
  · rintro (⟨i, h⟩ | h)
    · obtain ⟨h1, h2⟩ := Loc.grow_pl.1 h
      simp only [Prod.mk.injEq] at h2
      omega
    · simp only [Loc.grow] at h; omega
  · rintro ⟨rfl, h1, h2⟩
    by_cases hx : X < base + n
    · exact .inl ⟨X - base, Loc.grow_pl.2 ⟨by omega, by simp; omega⟩⟩
    · exact .inr ⟨rfl, by omega, h2⟩
theorem Loc.lin_span {blk base n o k : Nat} (h : o + k ≤ n) : (Loc.lin blk base n).span o k blk (base + o) := by
  intro j hj
  exact Loc.lin_pl.2 ⟨by omega, by simp [Nat.add_assoc]⟩
theorem Loc.grow_inj {blk base n m : Nat} : (Loc.grow blk base n m).inj := by
  refine ⟨fun i j p h k => ?_, fun i B X h k => ?_⟩
  · obtain ⟨h1, rfl⟩ := Loc.grow_pl.1 h
    obtain ⟨h2, h3⟩ := Loc.grow_pl.1 k
    simp only [Prod.mk.injEq] at h3
    omega
  · obtain ⟨h1, h2⟩ := Loc.grow_pl.1 h
    simp only [Prod.mk.injEq] at h2
    simp only [Loc.grow] at k
    omega
theorem Loc.span_sub {L : Loc} {o n B X a m : Nat} (h : L.span o n B X) (hm : a + m ≤ n) : L.span (o + a) m B (X + a) := by
  intro j hj
  rw [Nat.add_assoc, Nat.add_assoc]
  exact h (a + j) (by omega)
abbrev Names := Nat → Option Loc
inductive Cap where
  | exact (c : Nat)
  | unk
  | whole
inductive AV where
  | int (k : IntKind) (n : Int)
  | bool (b : Bool)
  | str (s : ByteArray)
  | agg (rs : List Run)
  | ptr (b o n : Nat)
  | sptr (bs : List (Nat × Nat))
  | slice (nn : Bool) (b o len : Nat) (cap : Cap) (esz : Nat)
  | nils
  | fn (f : FuncId) (k : Nat) (caps : List (List (Nat × Nat)))
  | tup (vs : List AV)
  | mixv (vs : List AV)
  | ifc (b : Bool)
  | any
inductive FK where
  | ints (k : IntKind) (g : Nat → Int)
  | strs (g : Nat → ByteArray)
  | bools (g : Nat → Bool)
def FK.at : FK → Nat → Value
  | .ints k g, i => .int k (g i)
  | .strs g, i => .string (g i)
  | .bools g, i => .bool (g i)
def FK.av : FK → Nat → AV
  | .ints k g, i => .int k (g i)
  | .strs g, i => .str (g i)
  | .bools g, i => .bool (g i)
def FK.off (o : Nat) : FK → FK
  | .ints k g => .ints k fun j => g (o + j)
  | .strs g => .strs fun j => g (o + j)
  | .bools g => .bools fun j => g (o + j)
theorem FK.at_off (f : FK) (o j : Nat) : (f.off o).at j = f.at (o + j) := by cases f <;> rfl
inductive Cont where
  | flat (n : Nat) (f : FK)
  | avs (vs : List AV)
  | hdr (p n q : Nat) (of ln : Nat → Nat) (cp : Option (Nat → Nat))
  | dead
structure Blk where
  rw : Bool
  c : Cont
abbrev Heap := List Blk
def chained (β : Names) (blk base : Nat) : List (Nat × Nat) → Prop
  | [] => True
  | (b, n) :: r => β b = some (Loc.lin blk base n) ∧ chained β blk (base + n) r
def ptrRel (β : Names) (bs : List (Nat × Nat)) (v : Value) : Prop :=
  bs ≠ [] ∧ ∃ blk base, v = .pointer (some ⟨blk, base, none⟩) ∧ chained β blk base bs
def all2 {α γ : Type} (R : α → γ → Prop) : List α → List γ → Prop
  | [], [] => True
  | a :: as, c :: cs => R a c ∧ all2 R as cs
  | _, _ => False
def capRel (L : Loc) (o len : Nat) (cap : Cap) (esz c B X : Nat) : Prop :=
  match cap with
  | .exact c0 => c = c0 ∧ L.span o (c0 * esz) B X
  | .unk => L.span o (len * esz) B X
  | .whole => o = 0 ∧ L = Loc.grow B X (len * esz) (c * esz)
def sliceRel (β : Names) (nn : Bool) (b o len : Nat) (cap : Cap) (esz : Nat) (v : Value) : Prop :=
  ∃ (L : Loc) (ao : Option Addr) (c B X : Nat), β b = some L ∧ v = .slice ao len c ∧ len ≤ c ∧ (nn = true → ao ≠ none) ∧ (c = 0 ∨ ao = some ⟨B, X, none⟩) ∧ capRel L o len cap esz c B X
def AV.rel1 (β : Names) : AV → Value → Prop
  | .int k n, v => v = .int k n
  | .bool b, v => v = .bool b
  | .str s, v => v = .string s
  | .agg rs, v => v = .agg (cellsOf rs).toArray
  | .ptr b o n, v => ∃ L B X, β b = some L ∧ v = .pointer (some ⟨B, X, none⟩) ∧ L.span o n B X
  | .sptr bs, v => ptrRel β bs v
  | .slice nn b o len cap esz, v => sliceRel β nn b o len cap esz v
  | .nils, v => v = .slice none 0 0
  | .fn f k caps, v => ∃ vs : List Value, v = .func (.func f) (vs.take k).toArray (vs.drop k).toArray ∧ all2 (ptrRel β) caps vs
  | .tup _, _ => False
  | .mixv _, _ => False
  | .ifc b, v => (b = true ∧ v = .nilIface) ∨ (b = false ∧ ∃ t p, v = .iface t p)
  | .any, _ => True
def AV.rel (β : Names) : AV → Value → Prop
  | .tup vs, v => ∃ xs : List Value, v = .tuple xs.toArray ∧ all2 (AV.rel1 β) vs xs
  | .mixv vs, v => ∃ xs : List Value, v = .agg (xs.flatMap fun x => x.cells.toList).toArray ∧ all2 (AV.rel1 β) vs xs
  | a, v => AV.rel1 β a v
def Names.le (β γ : Names) : Prop := ∀ b L, β b = some L → γ b = some L
theorem Names.le_refl (β : Names) : β.le β := fun _ _ h => h
theorem Names.le_trans {β γ δ : Names} (h : β.le γ) (k : γ.le δ) : β.le δ := fun b L e => k b L (h b L e)
theorem chained_le {β γ : Names} (h : β.le γ) : ∀ {bs : List (Nat × Nat)} {blk base : Nat}, chained β blk base bs → chained γ blk base bs
  | [], _, _, _ => trivial
  | (_, _) :: _, _, _, ⟨h1, h2⟩ => ⟨h _ _ h1, chained_le h h2⟩
theorem ptrRel_le {β γ : Names} (h : β.le γ) {bs : List (Nat × Nat)} {v : Value} (p : ptrRel β bs v) : ptrRel γ bs v := by
  obtain ⟨h1, blk, base, h2, h3⟩ := p
  exact ⟨h1, blk, base, h2, chained_le h h3⟩
theorem all2_mono {α γ : Type} {R S : α → γ → Prop} (h : ∀ a c, R a c → S a c) : ∀ {as : List α} {cs : List γ}, all2 R as cs → all2 S as cs
  | [], [], _ => trivial
  | _ :: _, _ :: _, ⟨h1, h2⟩ => ⟨h _ _ h1, all2_mono h h2⟩
  | [], _ :: _, h => h.elim
  | _ :: _, [], h => h.elim
theorem all2_take {α γ : Type} {R : α → γ → Prop} : ∀ (m : Nat) {as : List α} {cs : List γ}, all2 R as cs → all2 R (as.take m) (cs.take m)
  | 0, _, _, _ => by simp [all2]
  | m + 1, [], [], _ => trivial
  | m + 1, _ :: _, _ :: _, ⟨h1, h2⟩ => ⟨h1, all2_take m h2⟩
  | _ + 1, [], _ :: _, h => h.elim
  | _ + 1, _ :: _, [], h => h.elim
theorem all2_drop {α γ : Type} {R : α → γ → Prop} : ∀ (m : Nat) {as : List α} {cs : List γ}, all2 R as cs → all2 R (as.drop m) (cs.drop m)
  | 0, _, _, h => h
  | m + 1, [], [], _ => trivial
  | m + 1, _ :: _, _ :: _, ⟨_, h2⟩ => all2_drop m h2
  | _ + 1, [], _ :: _, h => h.elim
  | _ + 1, _ :: _, [], h => h.elim
theorem AV.rel1_le {β γ : Names} (h : β.le γ) {a : AV} {v : Value} (r : a.rel1 β v) : a.rel1 γ v := by
  cases a <;> simp only [AV.rel1] at r ⊢ <;> try exact r
  · obtain ⟨L, B, X, h1, h2⟩ := r; exact ⟨L, B, X, h _ _ h1, h2⟩
  · exact ptrRel_le h r
  · obtain ⟨L, a, c, B, X, h1, h2⟩ := r; exact ⟨L, a, c, B, X, h _ _ h1, h2⟩
  · obtain ⟨vs, h1, h2⟩ := r; exact ⟨vs, h1, all2_mono (fun _ _ p => ptrRel_le h p) h2⟩
theorem AV.rel_le {β γ : Names} (h : β.le γ) {a : AV} {v : Value} (r : a.rel β v) : a.rel γ v := by
  cases a
  case tup vs => obtain ⟨xs, h1, h2⟩ := r; exact ⟨xs, h1, all2_mono (fun _ _ p => AV.rel1_le h p) h2⟩
  case mixv vs => obtain ⟨xs, h1, h2⟩ := r; exact ⟨xs, h1, all2_mono (fun _ _ p => AV.rel1_le h p) h2⟩
  all_goals (simp only [AV.rel] at r ⊢; exact AV.rel1_le h r)
def hdrCap (cp : Option (Nat → Nat)) (i : Nat) : Cap := match cp with | some c => .exact (c i) | none => .unk
def hdrAV (p : Nat) (of ln : Nat → Nat) (cp : Option (Nat → Nat)) (i : Nat) : AV := .slice false p (of i) (ln i) (hdrCap cp i) 1
def Cont.rel (β : Names) (L : Loc) (c : Cont) (w : World) : Prop :=
  match c with
  | .flat n f => ∀ i B X, L.pl i = some (B, X) → w.cell? ⟨B, X, none⟩ = some (f.at i)
  | .avs vs => (∀ i, i < vs.length → ∃ B X, L.pl i = some (B, X)) ∧ ∀ i B X, L.pl i = some (B, X) → ∃ v u, vs[i]? = some v ∧ w.cell? ⟨B, X, none⟩ = some u ∧ v.rel1 β u
  | .hdr p n q of ln cp => (∃ M, β p = some M ∧ ∀ i, q ≤ i → M.pl i = none) ∧ ∀ i B X, L.pl i = some (B, X) → ∃ u, w.cell? ⟨B, X, none⟩ = some u ∧ (hdrAV p of ln cp i).rel1 β u
  | .dead => True
structure Blk.rel (β : Names) (L : Loc) (x : Blk) (w : World) : Prop where
  cells : x.c ≠ .dead → ∀ B X, L.own B X → (w.cell? ⟨B, X, none⟩).isSome = true ∧ (x.rw = true → w.frozen? ⟨B, X, none⟩ = false)
  cont : x.c.rel β L w
class Glob where
  ok : World → Prop
  ng : Nat
  cells : ∀ w w' : World, (∀ a : Addr, a.block < ng → w'.cell? a = w.cell? a) → ok w → ok w'
  size : ∀ w, ok w → ng ≤ w.heap.size
variable [Gl : Glob]
structure HRel (β : Names) (h : Heap) (w : World) : Prop where
  blk : ∀ b x, h[b]? = some x → x.c ≠ .dead → ∃ L, β b = some L ∧ x.rel β L w
  disj : ∀ b b' x x' L L' B X, b ≠ b' → h[b]? = some x → h[b']? = some x' → β b = some L → β b' = some L' → x.rw = true → x.c ≠ .dead → x'.c ≠ .dead → L.own B X → L'.own B X → False
  inj : ∀ b x L, h[b]? = some x → β b = some L → x.rw = true → x.c ≠ .dead → L.inj
  fresh : ∀ b, h.length ≤ b → β b = none
  glob : Gl.ok w
  gap : ∀ b x L B X, h[b]? = some x → x.rw = true → x.c ≠ .dead → β b = some L → L.own B X → Gl.ng ≤ B
def Mine (β : Names) (h : Heap) (a : Addr) : Prop := ∃ b x L, h[b]? = some x ∧ x.rw = true ∧ x.c ≠ .dead ∧ β b = some L ∧ L.own a.block a.off
structure Ext (M : Addr → Prop) (w w' : World) : Prop where
  os : w'.os = w.os
  tape : w'.tape = w.tape
  output : w'.output = w.output
  size : w.heap.size ≤ w'.heap.size
  obj : ∀ B, B < w.heap.size → (∀ a : Addr, a.block = B → ¬ M a) → w'.heap[B]? = w.heap[B]?
  cell : ∀ a : Addr, a.block < w.heap.size → ¬ M a → w'.cell? a = w.cell? a
  froz : ∀ a : Addr, a.block < w.heap.size → w'.frozen? a = w.frozen? a
theorem HRel.glob_ext {β : Names} {h : Heap} {w w' : World} (r : HRel β h w) (x : Ext (Mine β h) w w') : Gl.ok w' :=
  Gl.cells w w' (fun a ha => x.cell a (by have := Gl.size w r.glob; omega) fun ⟨b, y, L, h1, h2, h3, h4, h5⟩ => by have := r.gap b y L a.block a.off h1 h2 h3 h4 h5; omega) r.glob
theorem Ext.refl (M : Addr → Prop) (w : World) : Ext M w w := ⟨rfl, rfl, rfl, Nat.le_refl _, fun _ _ _ => rfl, fun _ _ _ => rfl, fun _ _ => rfl⟩
theorem Ext.trans {M N : Addr → Prop} {a b c : World} (h : Ext M a b) (k : Ext N b c) (hn : ∀ x, N x → M x ∨ a.heap.size ≤ x.block) : Ext M a c where
  os := k.os.trans h.os
  tape := k.tape.trans h.tape
  output := k.output.trans h.output
  size := Nat.le_trans h.size k.size
  obj := fun B hB hM => by
    rw [k.obj B (Nat.lt_of_lt_of_le hB h.size) (fun x hx hN => ?_), h.obj B hB hM]
    rcases hn x hN with h1 | h1
    · exact hM x hx h1
    · omega
  cell := fun x hx hM => by
    rw [k.cell x (Nat.lt_of_lt_of_le hx h.size) (fun hN => ?_), h.cell x hx hM]
    rcases hn x hN with h1 | h1
    · exact hM h1
    · omega
  froz := fun x hx => by rw [k.froz x (Nat.lt_of_lt_of_le hx h.size), h.froz x hx]
theorem Ext.mono {M N : Addr → Prop} {a b : World} (h : Ext M a b) (hn : ∀ x, M x → N x) : Ext N a b :=
  ⟨h.os, h.tape, h.output, h.size, fun B hB hM => h.obj B hB (fun x hx hm => hM x hx (hn x hm)), fun x hx hN => h.cell x hx (fun hm => hN (hn x hm)), h.froz⟩
theorem Ext.of_below {M : Addr → Prop} {w w' : World} (h : Below w.heap.size w w') : Ext M w w' :=
  ⟨h.os, h.tape, h.output, h.size, fun B hB _ => h.block B hB, fun a ha _ => h.cell ha, fun a ha => h.frozen ha⟩
theorem Ext.drew {M : Addr → Prop} {w w' : World} (h : Ext M w w') : Ext M w w'.drew := ⟨h.os, h.tape, h.output, h.size, h.obj, h.cell, h.froz⟩
theorem Ext.below {w w' : World} {M : Addr → Prop} (h : Ext M w w') (hM : ∀ a, ¬ M a) : Below w.heap.size w w' :=
  ⟨h.os, h.tape, h.output, h.size, fun B hB => h.obj B hB fun a _ => hM a⟩
theorem Cont.rel_names {β γ : Names} (h : β.le γ) {L : Loc} {c : Cont} {w : World} (r : c.rel β L w) : c.rel γ L w := by
  cases c with
  | flat n f => exact r
  | dead => trivial
  | avs vs =>
    refine ⟨r.1, fun i B X hp => ?_⟩
    obtain ⟨v, u, h1, h2, h3⟩ := r.2 i B X hp
    exact ⟨v, u, h1, h2, AV.rel1_le h h3⟩
  | hdr p n q of ln cp =>
    obtain ⟨⟨M, hM, hq⟩, r⟩ := r
    refine ⟨⟨M, h _ _ hM, hq⟩, fun i B X hp => ?_⟩
    obtain ⟨u, h1, h2⟩ := r i B X hp
    exact ⟨u, h1, AV.rel1_le h h2⟩
theorem Blk.rel_names {β γ : Names} (h : β.le γ) {L : Loc} {x : Blk} {w : World} (r : x.rel β L w) : x.rel γ L w := ⟨r.cells, Cont.rel_names h r.cont⟩
theorem Cont.rel_world {β : Names} {L : Loc} {c : Cont} {w w' : World} (r : c.rel β L w) (hc : c ≠ .dead → ∀ i B X, L.pl i = some (B, X) → w'.cell? ⟨B, X, none⟩ = w.cell? ⟨B, X, none⟩) : c.rel β L w' := by
  cases c with
  | flat n f =>
    intro i B X hp
    rw [hc (by simp) i B X hp]
    exact r i B X hp
  | dead => trivial
  | avs vs =>
    refine ⟨r.1, fun i B X hp => ?_⟩
    rw [hc (by simp) i B X hp]
    exact r.2 i B X hp
  | hdr p n q of ln cp =>
    refine ⟨r.1, fun i B X hp => ?_⟩
    rw [hc (by simp) i B X hp]
    exact r.2 i B X hp
theorem Blk.rel_world {β : Names} {L : Loc} {x : Blk} {w w' : World} (r : x.rel β L w) (hc : x.c ≠ .dead → ∀ B X, L.own B X → w'.cell? ⟨B, X, none⟩ = w.cell? ⟨B, X, none⟩) (hf : x.c ≠ .dead → ∀ B X, L.own B X → w'.frozen? ⟨B, X, none⟩ = w.frozen? ⟨B, X, none⟩) : x.rel β L w' where
  cells := by
    intro hd B X ho
    rw [hc hd B X ho, hf hd B X ho]
    exact r.cells hd B X ho
  cont := Cont.rel_world r.cont fun hd i B X hp => hc hd B X (.inl ⟨i, hp⟩)
theorem Blk.rel_cell {β : Names} {L : Loc} {x : Blk} {w : World} (r : x.rel β L w) (hd : x.c ≠ .dead) {B X : Nat} (h : L.own B X) : ∃ u, w.cell? ⟨B, X, none⟩ = some u := Option.isSome_iff_exists.1 (r.cells hd B X h).1
structure St where
  t : List AV
  h : Heap
structure Rel (β : Names) (s : St) (a : Act) (w : World) : Prop where
  len : a.tmps.size = s.t.length
  val : ∀ (i : Nat) (v : AV), s.t[i]? = some v → v.rel β (a.tmps.getD i undef)
  defers : a.defers = []
  heap : HRel β s.h w
theorem HRel.drew {β : Names} {h : Heap} {w : World} (r : HRel β h w) : HRel β h w.drew := ⟨fun b x hb hx => let ⟨L, h1, h2⟩ := r.blk b x hb hx; ⟨L, h1, ⟨h2.cells, Cont.rel_world h2.cont fun _ _ _ _ _ => rfl⟩⟩, r.disj, r.inj, r.fresh, Gl.cells w w.drew (fun _ _ => rfl) r.glob, r.gap⟩
theorem Rel.drew {β : Names} {s : St} {a : Act} {w : World} (r : Rel β s a w) : Rel β s a w.drew := ⟨r.len, r.val, r.defers, r.heap.drew⟩
end Go.Proofs.YtoeailachidcdaaGreatDoor.Hg
