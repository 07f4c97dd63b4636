/- Operations that write nothing that was there, on abstract states; each is held against the model's own operation. -/
import Derived.Test.YtjnfeffflkgddaaHxLay
namespace Go.Proofs.Ytjnfeffflkgddaa.Hx
set_option linter.unusedVariables false
set_option linter.unusedSimpArgs false
open Go Go.RowKit

structure Env where
  P : Program
  lays : List Lay
  fn : FuncId → (ρ : Type) → List AV → Heap → (AV → Heap → Option ρ) → Option ρ
  wr : FuncId → List Bool

def Env.lay (E : Env) (t : TypeId) : Option Lay := E.lays[t]?

def gz : List Value → Option (List (IntKind × Nat))
  | [] => some []
  | .int k z :: l => if z = 0 then (match gz l with
      | some [] => some [(k, 1)]
      | some ((k', n) :: r) => if k' = k then some ((k, n + 1) :: r) else some ((k, 1) :: (k', n) :: r)
      | none => none) else none
  | _ => none

theorem gz_eq : ∀ {l : List Value} {rs : List (IntKind × Nat)}, gz l = some rs → l = cellsOf (zruns0 rs)
  | [], rs, h => by simp [gz] at h; subst h; simp [zruns0, cellsOf]
  | v :: l, rs, h => by
    cases v <;> simp only [gz] at h <;> try contradiction
    rename_i k z
    split at h
    · rename_i hz
      subst hz
      split at h
      · rename_i he
        simp only [Option.some.injEq] at h; subst h
        have := gz_eq he
        simp [zruns0, cellsOf, cells_zero] at this ⊢
        exact this
      · rename_i k' n r he
        have := gz_eq he
        split at h
        · rename_i hk
          subst hk
          simp only [Option.some.injEq] at h; subst h
          simp only [zruns0, cellsOf, List.map_cons, List.flatMap_cons, cells_zero] at this ⊢
          simp [List.replicate_succ, this]
        · simp only [Option.some.injEq] at h; subst h
          simp only [zruns0, cellsOf, List.map_cons, List.flatMap_cons, cells_zero] at this ⊢
          simp [this]
      · cases h
    · cases h

def ofConst : Value → AV
  | .int k n => .int k n
  | .bool b => .bool b
  | .string s => .str s
  | .slice none 0 0 => .nils
  | .agg cs => match gz cs.toList with | some rs => .agg (zruns0 rs) | none => .any
  | _ => .any

theorem ofConst_rel (β : Names) (v : Value) : (ofConst v).rel β v := by
  unfold ofConst
  split
  · rfl
  · rfl
  · rfl
  · rfl
  · split
    · rename_i cs rs he
      show _ = _
      rw [← gz_eq he]
    · trivial
  · trivial

def St.ev (s : St) : Operand → AV
  | .tmp i => s.t.getD i .any
  | .const v => ofConst v
  | .func f => .fn f 0 []
  | .global _ => .any

theorem Rel.ev {β : Names} {s : St} {a : Act} {w : World} (r : Rel β s a w) (x : Operand) : (s.ev x).rel β (a.eval x) := by
  cases x with
  | tmp i =>
    simp only [St.ev, Act.eval]
    cases h : s.t[i]? with
    | none => simp [List.getD, h, AV.rel, AV.rel1]
    | some v => simp only [List.getD, h, Option.getD_some]; exact r.val i v h
  | const v => exact ofConst_rel β v
  | global g => simp [St.ev, AV.rel, AV.rel1]
  | func f => exact ⟨[], rfl, trivial⟩

/-- New blocks behind those that are there. -/
structure NewOk (β γ : Names) (n : Nat) (nb : Heap) (w w' : World) : Prop where
  old : ∀ b, b < n → γ b = β b
  none' : ∀ b, n + nb.length ≤ b → γ b = none
  blk : ∀ i x, nb[i]? = some x → ∃ L, γ (n + i) = some L ∧ x.rel γ L w' ∧ w.heap.size ≤ L.blk
  disj : ∀ i j x y L M, i ≠ j → nb[i]? = some x → nb[j]? = some y → γ (n + i) = some L → γ (n + j) = some M → L.apart (x.ext L) M (y.ext M)

theorem NewOk.nil {β : Names} {n : Nat} (w : World) (h : ∀ b, n ≤ b → β b = none) : NewOk β β n [] w w :=
  ⟨fun _ _ => rfl, fun b hb => h b (by simpa using hb), by simp, by simp⟩

theorem NewOk.le {β γ : Names} {n : Nat} {nb : Heap} {w w' : World} (h : NewOk β γ n nb w w') (hf : ∀ b, n ≤ b → β b = none) : β.le γ := by
  intro b L hb
  by_cases hlt : b < n
  · rw [h.old b hlt]; exact hb
  · rw [hf b (by omega)] at hb; cases hb

theorem HRel.blk_lt {β : Names} {h : Heap} {w : World} (r : HRel β h w) {b : Nat} {x : Blk} {L : Loc} (hb : h[b]? = some x) (hL : β b = some L) {i : Nat} (hi : i < x.ext L) : L.blk < w.heap.size := by
  have hx : x.c ≠ .dead := by intro e; simp [Blk.ext, e] at hi
  obtain ⟨L', hL', hr⟩ := r.blk b x hb hx
  rw [hL] at hL'; cases hL'
  obtain ⟨u, hu⟩ := Blk.rel_cell hr hi
  exact World.block_lt_of_cell? w (L.at i) hu

theorem HRel.grow {β γ : Names} {h nb : Heap} {w w' : World} (r : HRel β h w) (k : NewOk β γ h.length nb w w') (hb : Below w.heap.size w w') : HRel γ (h ++ nb) w' where
  blk := by
    intro b x hx hd
    by_cases hlt : b < h.length
    · rw [List.getElem?_append_left hlt] at hx
      obtain ⟨L, hL, hr⟩ := r.blk b x hx hd
      refine ⟨L, by rw [k.old b hlt]; exact hL, ?_⟩
      refine Blk.rel_world (Blk.rel_names (k.le r.fresh) hr) (fun i hi => ?_) (fun i hi => ?_)
      · exact hb.cell (p := L.at i) (r.blk_lt hx hL hi)
      · exact hb.frozen (p := L.at i) (r.blk_lt hx hL hi)
    · rw [List.getElem?_append_right (by omega)] at hx
      obtain ⟨L, hL, hr, _⟩ := k.blk _ x hx
      have e : h.length + (b - h.length) = b := by omega
      rw [e] at hL
      exact ⟨L, hL, hr⟩
  disj := by
    intro b b' x x' L L' hne hx hx' hL hL' hrw
    by_cases h1 : b < h.length <;> by_cases h2 : b' < h.length
    · rw [List.getElem?_append_left h1] at hx
      rw [List.getElem?_append_left h2] at hx'
      rw [k.old b h1] at hL
      rw [k.old b' h2] at hL'
      exact r.disj b b' x x' L L' hne hx hx' hL hL' hrw
    · rw [List.getElem?_append_left h1] at hx
      rw [List.getElem?_append_right (by omega)] at hx'
      rw [k.old b h1] at hL
      obtain ⟨M, hM, _, hsz⟩ := k.blk _ x' hx'
      have e : h.length + (b' - h.length) = b' := by omega
      rw [e, hL'] at hM; cases hM
      intro i j hi hj he
      have := r.blk_lt hx hL hi
      omega
    · rw [List.getElem?_append_right (by omega)] at hx
      rw [List.getElem?_append_left h2] at hx'
      rw [k.old b' h2] at hL'
      obtain ⟨M, hM, _, hsz⟩ := k.blk _ x hx
      have e : h.length + (b - h.length) = b := by omega
      rw [e, hL] at hM; cases hM
      intro i j hi hj he
      have := r.blk_lt hx' hL' hj
      omega
    · rw [List.getElem?_append_right (by omega)] at hx hx'
      have e : h.length + (b - h.length) = b := by omega
      have e' : h.length + (b' - h.length) = b' := by omega
      exact k.disj (b - h.length) (b' - h.length) x x' L L' (by omega) hx hx' (by rw [e]; exact hL) (by rw [e']; exact hL')
  fresh := by
    intro b hb'
    exact k.none' b (by simpa using hb')

/-- What an operation of the model comes to, in abstract words: v, and new blocks. -/
def SemOk (P : Program) (β : Names) (n : Nat) (w : World) (m : Sem Value) (v : AV) (nb : Heap) : Prop :=
  ∃ y w' γ, m.run P w = .ok y w' ∧ v.rel γ y ∧ NewOk β γ n nb w w' ∧ Below w.heap.size w w'

theorem SemOk.pure {P : Program} {β : Names} {n : Nat} {w : World} {m : Sem Value} {v : AV} {y : Value} (hf : ∀ b, n ≤ b → β b = none) (h : m.run P w = .ok y w) (hv : v.rel β y) : SemOk P β n w m v [] :=
  ⟨y, w, β, h, hv, NewOk.nil w hf, Below.refl _ _⟩

/-! a new row of cells -/

def Blk.size (x : Blk) : Nat := match x.c with | .ints _ n _ => n | .avs vs => vs.length | .dead => 0

def Blk.cellsRel (β : Names) (x : Blk) (cs : List Value) : Prop :=
  match x.c with
  | .ints k n g => cs = Run.cells ⟨k, n, g⟩
  | .avs vs => all2 (AV.rel1 β) vs cs
  | .dead => False

def blksRel (β : Names) : List Blk → List Value → Prop
  | [], cs => cs = []
  | x :: xs, cs => ∃ c1 c2, cs = c1 ++ c2 ∧ x.cellsRel β c1 ∧ blksRel β xs c2

theorem all2_length {α γ : Type} {R : α → γ → Prop} : ∀ {as : List α} {cs : List γ}, all2 R as cs → as.length = cs.length
  | [], [], _ => rfl
  | _ :: _, _ :: _, ⟨_, h⟩ => by simp [all2_length h]
  | [], _ :: _, h => h.elim
  | _ :: _, [], h => h.elim

theorem all2_get {α γ : Type} {R : α → γ → Prop} : ∀ {as : List α} {cs : List γ}, all2 R as cs → ∀ {i : Nat} {a : α}, as[i]? = some a → ∃ c, cs[i]? = some c ∧ R a c
  | a :: as, c :: cs, ⟨h, _⟩, 0, _, e => by simp at e; subst e; exact ⟨c, rfl, h⟩
  | _ :: as, _ :: cs, ⟨_, h⟩, i + 1, _, e => by
    obtain ⟨c, h1, h2⟩ := all2_get h (i := i) (by simpa using e)
    exact ⟨c, by simpa using h1, h2⟩
  | [], [], _, _, _, e => by simp at e
  | [], _ :: _, h, _, _, _ => h.elim
  | _ :: _, [], h, _, _, _ => h.elim

theorem Blk.cellsRel_length {β : Names} {x : Blk} {cs : List Value} (h : x.cellsRel β cs) : cs.length = x.size := by
  unfold Blk.cellsRel at h
  unfold Blk.size
  split at h
  · simp [h, Run.cells_length]
  · simp [all2_length h]
  · exact h.elim

def locAt (blk base : Nat) : List Blk → Nat → Option Loc
  | [], _ => none
  | x :: _, 0 => some ⟨blk, base, x.size⟩
  | x :: r, i + 1 => locAt blk (base + x.size) r i

def names (n : Nat) : List Blk → List (Nat × Nat)
  | [] => []
  | x :: r => (n, x.size) :: names (n + 1) r

def extNames (β : Names) (n blk : Nat) (bs : List Blk) : Names := fun b => if b < n then β b else locAt blk 0 bs (b - n)

theorem locAt_none {blk base : Nat} : ∀ {bs : List Blk} {i : Nat}, bs.length ≤ i → locAt blk base bs i = none
  | [], _, _ => by simp [locAt]
  | x :: r, 0, h => by simp at h
  | x :: r, i + 1, h => locAt_none (bs := r) (by simpa using h)

theorem locAt_some {blk : Nat} : ∀ {bs : List Blk} {base i : Nat} {x : Blk}, bs[i]? = some x → ∃ o, locAt blk base bs i = some ⟨blk, o, x.size⟩ ∧ base ≤ o
  | [], _, _, _, h => by simp at h
  | x :: r, base, 0, y, h => by simp at h; subst h; exact ⟨base, rfl, Nat.le_refl _⟩
  | x :: r, base, i + 1, y, h => by
    obtain ⟨o, h1, h2⟩ := locAt_some (base := base + x.size) (show r[i]? = some y by simpa using h)
    exact ⟨o, h1, by omega⟩

theorem chained_locAt {blk : Nat} {γ : Names} : ∀ {bs : List Blk} {n base : Nat}, (∀ i, i < bs.length → γ (n + i) = locAt blk base bs i) → chained γ blk base (names n bs)
  | [], _, _, _ => trivial
  | x :: r, n, base, h => by
    refine ⟨by have := h 0 (by simp); simpa [locAt] using this, chained_locAt fun i hi => ?_⟩
    have := h (i + 1) (by simpa using hi)
    rw [show n + 1 + i = n + (i + 1) by omega, this]; rfl

/-- two blocks of one row lie apart -/
theorem locAt_apart {blk : Nat} : ∀ {bs : List Blk} {base i j : Nat} {L M : Loc}, i < j → locAt blk base bs i = some L → locAt blk base bs j = some M → L.base + L.cells ≤ M.base
  | [], _, _, _, _, _, _, h, _ => by simp [locAt] at h
  | x :: r, base, 0, j + 1, L, M, _, h, k => by
    simp [locAt] at h; subst h
    simp only [locAt] at k
    have hj : r[j]?.isSome := by
      cases hr : r[j]? with
      | none => rw [locAt_none (by simpa using hr)] at k; cases k
      | some y => rfl
    obtain ⟨y, hy⟩ := Option.isSome_iff_exists.1 hj
    obtain ⟨o, h1, h2⟩ := locAt_some (blk := blk) (base := base + x.size) hy
    rw [h1] at k; cases k
    simpa using h2
  | x :: r, base, i + 1, j + 1, L, M, hij, h, k => locAt_apart (bs := r) (base := base + x.size) (by omega) h k

theorem Blk.rel_of_cells {β : Names} {w : World} {x : Blk} {blk base : Nat} {cs : List Value} (h : x.cellsRel β cs) (hc : ∀ i v, cs[i]? = some v → w.cell? ⟨blk, base + i, none⟩ = some v) (hf : ∀ i, w.frozen? ⟨blk, base + i, none⟩ = false) : x.rel β ⟨blk, base, x.size⟩ w := by
  unfold Blk.cellsRel at h
  unfold Blk.rel Blk.size
  split at h
  · rename_i k n g hx
    simp only [hx]
    refine ⟨trivial, fun i hi => ⟨?_, fun _ => hf i⟩⟩
    exact hc i _ (by rw [h, Run.cells_get _ hi])
  · rename_i vs hx
    simp only [hx]
    refine ⟨trivial, fun i v hv => ?_⟩
    obtain ⟨c, h1, h2⟩ := all2_get h hv
    exact ⟨c, hc i c h1, h2, fun _ => hf i⟩
  · exact h.elim

theorem blks_locAt {γ : Names} {w : World} {blk : Nat} : ∀ {bs : List Blk} {cs : List Value} {base : Nat}, blksRel γ bs cs → (∀ i v, cs[i]? = some v → w.cell? ⟨blk, base + i, none⟩ = some v) → (∀ i, w.frozen? ⟨blk, i, none⟩ = false) →
    ∀ i x, bs[i]? = some x → ∃ L, locAt blk base bs i = some L ∧ x.rel γ L w
  | [], _, _, _, _, _, i, x, hx => by simp at hx
  | y :: r, cs, base, ⟨c1, c2, he, h1, h2⟩, hc, hf, 0, x, hx => by
    simp at hx; subst hx
    refine ⟨_, rfl, Blk.rel_of_cells h1 (fun i v hv => hc i v ?_) (fun i => hf _)⟩
    rw [he, List.getElem?_append_left (List.getElem?_eq_some_iff.1 hv).1]; exact hv
  | y :: r, cs, base, ⟨c1, c2, he, h1, h2⟩, hc, hf, i + 1, x, hx => by
    have hl := Blk.cellsRel_length h1
    refine blks_locAt (base := base + y.size) h2 (fun j v hv => ?_) hf i x (by simpa using hx)
    have := hc (c1.length + j) v (by rw [he, List.getElem?_append_right (by omega)]; simpa using hv)
    rw [hl, ← Nat.add_assoc] at this
    exact this

theorem blksRel_le {β γ : Names} (h : β.le γ) : ∀ {bs : List Blk} {cs : List Value}, blksRel β bs cs → blksRel γ bs cs
  | [], _, r => r
  | x :: xs, _, ⟨c1, c2, he, h1, h2⟩ => by
    refine ⟨c1, c2, he, ?_, blksRel_le h h2⟩
    unfold Blk.cellsRel at *
    split
    · rename_i hx; simp only [hx] at h1; exact h1
    · rename_i hx; simp only [hx] at h1; exact all2_mono (fun _ _ p => AV.rel1_le h p) h1
    · rename_i hx; simp only [hx] at h1

theorem Blk.ext_le {x : Blk} {L : Loc} : x.ext L ≤ L.cells := by unfold Blk.ext; split <;> omega

/-- A new row whose cells are those of 'bs'. -/
theorem alloc_ok {β : Names} {n : Nat} {w : World} {bs : List Blk} {cs : List Value} (T : TypeId) (hf : ∀ b, n ≤ b → β b = none) (hr : blksRel β bs cs) :
    NewOk β (extNames β n w.heap.size bs) n bs w (w.alloc (.cells cs.toArray T)) ∧ chained (extNames β n w.heap.size bs) w.heap.size 0 (names n bs) ∧
      Below w.heap.size w (w.alloc (.cells cs.toArray T)) := by
  have hle : β.le (extNames β n w.heap.size bs) := by
    intro b L hb
    unfold extNames
    by_cases hlt : b < n
    · rw [if_pos hlt]; exact hb
    · rw [hf b (by omega)] at hb; cases hb
  have hat : ∀ i, extNames β n w.heap.size bs (n + i) = locAt w.heap.size 0 bs i := by
    intro i; unfold extNames; rw [if_neg (by omega)]; congr 1; omega
  refine ⟨⟨?_, ?_, ?_, ?_⟩, ?_, (Below.refl _ _).alloc (Nat.le_refl _) _⟩
  · intro b hb; unfold extNames; rw [if_pos hb]
  · intro b hb
    rw [show b = n + (b - n) by omega, hat]
    exact locAt_none (by omega)
  · intro i x hx
    obtain ⟨L, h1, h2⟩ := blks_locAt (w := w.alloc (.cells cs.toArray T)) (blk := w.heap.size) (base := 0) (blksRel_le hle hr)
      (fun i v hv => by rw [World.cell?_alloc_new]; simpa using hv) (fun i => World.frozen?_alloc_new w _ _ _) i x hx
    refine ⟨L, by rw [hat]; exact h1, h2, ?_⟩
    obtain ⟨o, h3, _⟩ := locAt_some (blk := w.heap.size) (base := 0) hx
    rw [h3] at h1; cases h1; exact Nat.le_refl _
  · intro i j x y L M hne hx hy hL hM
    rw [hat] at hL hM
    intro p q hp hq _
    have hp' := Nat.lt_of_lt_of_le hp Blk.ext_le
    have hq' := Nat.lt_of_lt_of_le hq Blk.ext_le
    rcases Nat.lt_or_gt_of_ne hne with hlt | hlt
    · have := locAt_apart hlt hL hM; omega
    · have := locAt_apart hlt hM hL; omega
  · exact chained_locAt fun i _ => hat i

end Go.Proofs.Ytjnfeffflkgddaa.Hx
