import Derived.Test.YtoeailachidcdaaGreatDoorHgLay
namespace Go.Proofs.YtoeailachidcdaaGreatDoor.Hg
set_option linter.unusedVariables false
set_option linter.unusedSimpArgs false
set_option linter.unusedSectionVars false
open Go Go.RowKit
variable [Gl : Glob]
structure Env where
  P : Program
  lays : List Lay
  fn : FuncId → (ρ : Type) → List AV → Heap → (AV → Heap → Option ρ) → Option ρ
  wr : FuncId → List Bool
def Env.lay (E : Env) (t : TypeId) : Option Lay := E.lays[t]?
def gz : List Value → Option (List (IntKind × Nat))
  | [] => some []
  | .int k z :: l => if z = 0 then (match gz l with
      | some [] => some [(k, 1)]
      | some ((k', n) :: r) => if k' = k then some ((k, n + 1) :: r) else some ((k, 1) :: (k', n) :: r)
      | none => none) else none
  | _ => none
theorem gz_eq : ∀ {l : List Value} {rs : List (IntKind × Nat)}, gz l = some rs → l = cellsOf (zruns0 rs)
  | [], rs, h => by simp [gz] at h; subst h; simp [zruns0, cellsOf]
  | v :: l, rs, h => by
    cases v <;> simp only [gz] at h <;> try contradiction
    rename_i k z
    split at h
    · rename_i hz
      subst hz
      split at h
      · rename_i he
        simp only [Option.some.injEq] at h; subst h
        have := gz_eq he
        simp [zruns0, cellsOf, cells_zero] at this ⊢
        exact this
      · rename_i k' n r he
        have := gz_eq he
        split at h
        · rename_i hk
          subst hk
          simp only [Option.some.injEq] at h; subst h
          simp only [zruns0, cellsOf, List.map_cons, List.flatMap_cons, cells_zero] at this ⊢
          simp [List.replicate_succ, this]
        · simp only [Option.some.injEq] at h; subst h
          simp only [zruns0, cellsOf, List.map_cons, List.flatMap_cons, cells_zero] at this ⊢
          simp [this]
      · cases h
    · cases h
def ofConst : Value → AV
  | .int k n => .int k n
  | .bool b => .bool b
  | .string s => .str s
  | .nilIface => .ifc true
  | .slice none 0 0 => .nils
  | .agg cs => match gz cs.toList with | some rs => .agg (zruns0 rs) | none => .any
  | _ => .any
theorem ofConst_rel (β : Names) (v : Value) : (ofConst v).rel β v := by
  unfold ofConst
  split
  · rfl
  · rfl
  · rfl
  · exact .inl ⟨rfl, rfl⟩
  · rfl
  · split
    · rename_i cs rs he
      show _ = _
      rw [← gz_eq he]
    · trivial
  · trivial
def St.ev (s : St) : Operand → AV
  | .tmp i => s.t.getD i .any
  | .const v => ofConst v
  | .func f => .fn f 0 []
  | .global _ => .any
theorem Rel.ev {β : Names} {s : St} {a : Act} {w : World} (r : Rel β s a w) (x : Operand) : (s.ev x).rel β (a.eval x) := by
  cases x with
  | tmp i =>
    simp only [St.ev, Act.eval]
    cases h : s.t[i]? with
    | none => simp [List.getD, h, AV.rel, AV.rel1]
    | some v => simp only [List.getD, h, Option.getD_some]; exact r.val i v h
  | const v => exact ofConst_rel β v
  | global g => simp [St.ev, AV.rel, AV.rel1]
  | func f => exact ⟨[], rfl, trivial⟩
structure NewOk (β γ : Names) (n : Nat) (nb : Heap) (w w' : World) : Prop where
  old : ∀ b, b < n → γ b = β b
  none' : ∀ b, n + nb.length ≤ b → γ b = none
  blk : ∀ i x, nb[i]? = some x → ∃ L, γ (n + i) = some L ∧ x.rel γ L w' ∧ L.inj ∧ (∀ B X, L.own B X → w.heap.size ≤ B) ∧ x.c ≠ .dead
  disj : ∀ i j x y L M B X, i ≠ j → nb[i]? = some x → nb[j]? = some y → γ (n + i) = some L → γ (n + j) = some M → L.own B X → M.own B X → False
theorem NewOk.nil {β : Names} {n : Nat} (w : World) (h : ∀ b, n ≤ b → β b = none) : NewOk β β n [] w w :=
  ⟨fun _ _ => rfl, fun b hb => h b (by simpa using hb), by simp, by simp⟩
theorem NewOk.le {β γ : Names} {n : Nat} {nb : Heap} {w w' : World} (h : NewOk β γ n nb w w') (hf : ∀ b, n ≤ b → β b = none) : β.le γ := by
  intro b L hb
  by_cases hlt : b < n
  · rw [h.old b hlt]; exact hb
  · rw [hf b (by omega)] at hb; cases hb
theorem HRel.blk_lt {β : Names} {h : Heap} {w : World} (r : HRel β h w) {b : Nat} {x : Blk} {L : Loc} (hb : h[b]? = some x) (hL : β b = some L) (hx : x.c ≠ .dead) {B X : Nat} (ho : L.own B X) : B < w.heap.size := by
  obtain ⟨L', hL', hr⟩ := r.blk b x hb hx
  rw [hL] at hL'; cases hL'
  obtain ⟨u, hu⟩ := Blk.rel_cell hr hx ho
  exact World.block_lt_of_cell? w ⟨B, X, none⟩ hu
theorem Blk.rel_below {β : Names} {L : Loc} {x : Blk} {w w' : World} (r : x.rel β L w) (hb : Below w.heap.size w w') : x.rel β L w' := by
  have lt : x.c ≠ .dead → ∀ B X, L.own B X → B < w.heap.size := fun hd B X ho => by
    obtain ⟨u, hu⟩ := Blk.rel_cell r hd ho
    exact World.block_lt_of_cell? w ⟨B, X, none⟩ hu
  exact Blk.rel_world r (fun hd B X ho => hb.cell (p := ⟨B, X, none⟩) (lt hd B X ho)) (fun hd B X ho => hb.frozen (p := ⟨B, X, none⟩) (lt hd B X ho))
theorem HRel.grow {β γ : Names} {h nb : Heap} {w w' : World} (r : HRel β h w) (k : NewOk β γ h.length nb w w') (hb : Below w.heap.size w w') : HRel γ (h ++ nb) w' where
  blk := by
    intro b x hx hd
    by_cases hlt : b < h.length
    · rw [List.getElem?_append_left hlt] at hx
      obtain ⟨L, hL, hr⟩ := r.blk b x hx hd
      exact ⟨L, by rw [k.old b hlt]; exact hL, Blk.rel_below (Blk.rel_names (k.le r.fresh) hr) hb⟩
    · rw [List.getElem?_append_right (by omega)] at hx
      obtain ⟨L, hL, hr, _⟩ := k.blk _ x hx
      have e : h.length + (b - h.length) = b := by omega
      rw [e] at hL
      exact ⟨L, hL, hr⟩
  disj := by
    intro b b' x x' L L' B X hne hx hx' hL hL' hrw hd hd' ho ho'
    by_cases h1 : b < h.length <;> by_cases h2 : b' < h.length
    · rw [List.getElem?_append_left h1] at hx
      rw [List.getElem?_append_left h2] at hx'
      rw [k.old b h1] at hL
      rw [k.old b' h2] at hL'
      exact r.disj b b' x x' L L' B X hne hx hx' hL hL' hrw hd hd' ho ho'
    · rw [List.getElem?_append_left h1] at hx
      rw [List.getElem?_append_right (by omega)] at hx'
      rw [k.old b h1] at hL
      obtain ⟨M, hM, _, _, hsz, _⟩ := k.blk _ x' hx'
      have e : h.length + (b' - h.length) = b' := by omega
      rw [e, hL'] at hM; cases hM
      have := r.blk_lt hx hL hd ho
      have := hsz B X ho'
      omega
    · rw [List.getElem?_append_right (by omega)] at hx
      rw [List.getElem?_append_left h2] at hx'
      rw [k.old b' h2] at hL'
      obtain ⟨M, hM, _, _, hsz, _⟩ := k.blk _ x hx
      have e : h.length + (b - h.length) = b := by omega
      rw [e, hL] at hM; cases hM
      have := r.blk_lt hx' hL' hd' ho'
      have := hsz B X ho
      omega
    · rw [List.getElem?_append_right (by omega)] at hx hx'
      have e : h.length + (b - h.length) = b := by omega
      have e' : h.length + (b' - h.length) = b' := by omega
      exact k.disj (b - h.length) (b' - h.length) x x' L L' B X (by omega) hx hx' (by rw [e]; exact hL) (by rw [e']; exact hL') ho ho'
  inj := by
    intro b x L hx hL hrw hd
    by_cases h1 : b < h.length
    · rw [List.getElem?_append_left h1] at hx
      rw [k.old b h1] at hL
      exact r.inj b x L hx hL hrw hd
    · rw [List.getElem?_append_right (by omega)] at hx
      obtain ⟨M, hM, _, hi, _⟩ := k.blk _ x hx
      have e : h.length + (b - h.length) = b := by omega
      rw [e, hL] at hM; cases hM
      exact hi
  fresh := by
    intro b hb'
    exact k.none' b (by simpa using hb')
  glob := Gl.cells w w' (fun a ha => hb.cell (by have := Gl.size w r.glob; omega)) r.glob
  gap := by
    intro b x L B X hx hrw hd hL ho
    by_cases h1 : b < h.length
    · rw [List.getElem?_append_left h1] at hx
      rw [k.old b h1] at hL
      exact r.gap b x L B X hx hrw hd hL ho
    · rw [List.getElem?_append_right (by omega)] at hx
      obtain ⟨M, hM, _, _, hsz, _⟩ := k.blk _ x hx
      have e : h.length + (b - h.length) = b := by omega
      rw [e, hL] at hM; cases hM
      have := hsz B X ho
      have := Gl.size w r.glob
      omega
theorem NewOk.append {α β γ : Names} {n : Nat} {xs ys : Heap} {w w1 w2 : World} (hf : ∀ b, n ≤ b → α b = none) (h : NewOk α β n xs w w1) (k : NewOk β γ (n + xs.length) ys w1 w2) (hw : w.heap.size ≤ w1.heap.size) (hb : Below w1.heap.size w1 w2) : NewOk α γ n (xs ++ ys) w w2 where
  old := fun b hb => by rw [k.old b (by omega), h.old b hb]
  none' := fun b hb => k.none' b (by simp at hb; omega)
  blk := by
    intro i x hx
    by_cases h1 : i < xs.length
    · rw [List.getElem?_append_left h1] at hx
      obtain ⟨L, e1, e2, e3, e4, e5⟩ := h.blk i x hx
      exact ⟨L, by rw [k.old _ (by omega)]; exact e1, Blk.rel_below (Blk.rel_names (k.le h.none') e2) hb, e3, e4, e5⟩
    · rw [List.getElem?_append_right (by omega)] at hx
      obtain ⟨L, e1, e2, e3, e4, e5⟩ := k.blk _ x hx
      rw [show n + xs.length + (i - xs.length) = n + i by omega] at e1
      exact ⟨L, e1, e2, e3, fun B X ho => Nat.le_trans hw (e4 B X ho), e5⟩
  disj := by
    intro i j x y L M B X hne hx hy hL hM ho ho'
    have lo : ∀ {i : Nat} {x : Blk} {L : Loc}, xs[i]? = some x → γ (n + i) = some L → L.own B X → B < w1.heap.size := by
      intro i x L hx hL ho
      have hlt := (List.getElem?_eq_some_iff.1 hx).1
      obtain ⟨L', e1, e2, _, _, e5⟩ := h.blk i x hx
      rw [k.old _ (by omega), e1] at hL; cases hL
      obtain ⟨u, hu⟩ := Blk.rel_cell e2 e5 ho
      exact World.block_lt_of_cell? w1 ⟨B, X, none⟩ hu
    have hi : ∀ {i : Nat} {x : Blk} {L : Loc}, ¬ i < xs.length → (xs ++ ys)[i]? = some x → γ (n + i) = some L → L.own B X → w1.heap.size ≤ B := by
      intro i x L hn hx hL ho
      rw [List.getElem?_append_right (by omega)] at hx
      obtain ⟨L', e1, _, _, e4, _⟩ := k.blk _ x hx
      rw [show n + xs.length + (i - xs.length) = n + i by omega, hL] at e1
      cases e1
      exact e4 B X ho
    by_cases h1 : i < xs.length <;> by_cases h2 : j < xs.length
    · rw [List.getElem?_append_left h1] at hx
      rw [List.getElem?_append_left h2] at hy
      rw [k.old _ (by omega)] at hL hM
      exact h.disj i j x y L M B X hne hx hy hL hM ho ho'
    · rw [List.getElem?_append_left h1] at hx
      have := lo hx hL ho
      have := hi h2 hy hM ho'
      omega
    · rw [List.getElem?_append_left h2] at hy
      have := lo hy hM ho'
      have := hi h1 hx hL ho
      omega
    · rw [List.getElem?_append_right (by omega)] at hx hy
      exact k.disj (i - xs.length) (j - xs.length) x y L M B X (by omega) hx hy (by rw [show n + xs.length + (i - xs.length) = n + i by omega]; exact hL) (by rw [show n + xs.length + (j - xs.length) = n + j by omega]; exact hM) ho ho'
theorem NewOk.empty {β : Names} {n : Nat} (w : World) (m : Nat) (f : FK) (h : ∀ b, n ≤ b → β b = none) : NewOk β (fun b => if b = n then some (Loc.lin 0 0 0) else β b) n [⟨true, .flat m f⟩] w w where
  old := fun b hb => if_neg (by omega)
  none' := fun b hb => by
    simp only [List.length_cons, List.length_nil] at hb
    exact (if_neg (by omega)).trans (h b (by omega))
  blk := by
    intro i x hx
    cases i with
    | succ i => simp at hx
    | zero =>
      simp only [List.getElem?_cons_zero, Option.some.injEq] at hx
      subst hx
      have hno : ∀ B X, ¬ (Loc.lin 0 0 0).own B X := fun B X ho => by have := Loc.lin_own.1 ho; omega
      refine ⟨Loc.lin 0 0 0, if_pos rfl, ⟨fun _ B X ho => absurd ho (hno B X), ?_⟩, Loc.grow_inj, fun B X ho => absurd ho (hno B X), by simp⟩
      intro i B X hp
      have := (Loc.lin_pl.1 hp).1
      omega
  disj := by
    intro i j x y L M B X hne hx hy
    have h1 := (List.getElem?_eq_some_iff.1 hx).1
    have h2 := (List.getElem?_eq_some_iff.1 hy).1
    simp at h1 h2
    omega
def SemOk (P : Program) (β : Names) (n : Nat) (w : World) (m : Sem Value) (v : AV) (nb : Heap) : Prop :=
  ∃ y w' γ, m.run P w = .ok y w' ∧ v.rel γ y ∧ NewOk β γ n nb w w' ∧ Below w.heap.size w w'
theorem SemOk.pure {P : Program} {β : Names} {n : Nat} {w : World} {m : Sem Value} {v : AV} {y : Value} (hf : ∀ b, n ≤ b → β b = none) (h : m.run P w = .ok y w) (hv : v.rel β y) : SemOk P β n w m v [] :=
  ⟨y, w, β, h, hv, NewOk.nil w hf, Below.refl _ _⟩
def Blk.size (x : Blk) : Nat := match x.c with | .flat n _ => n | .avs vs => vs.length | .hdr _ n .. => n | .dead => 0
def FK.cells (f : FK) (n : Nat) : List Value := (List.range n).map f.at
theorem FK.cells_length (f : FK) (n : Nat) : (f.cells n).length = n := by simp [FK.cells]
theorem FK.cells_get (f : FK) {n i : Nat} (h : i < n) : (f.cells n)[i]? = some (f.at i) := by simp [FK.cells, h]
def Blk.cellsRel (β : Names) (x : Blk) (cs : List Value) : Prop :=
  match x.c with
  | .flat n f => cs = f.cells n
  | .avs vs => all2 (AV.rel1 β) vs cs
  | .hdr p n q of ln cp => (∃ M, β p = some M ∧ ∀ i, q ≤ i → M.pl i = none) ∧ cs.length = n ∧ ∀ i u, cs[i]? = some u → (hdrAV p of ln cp i).rel1 β u
  | .dead => False
def blksRel (β : Names) : List Blk → List Value → Prop
  | [], cs => cs = []
  | x :: xs, cs => ∃ c1 c2, cs = c1 ++ c2 ∧ x.cellsRel β c1 ∧ blksRel β xs c2
theorem all2_length {α γ : Type} {R : α → γ → Prop} : ∀ {as : List α} {cs : List γ}, all2 R as cs → as.length = cs.length
  | [], [], _ => rfl
  | _ :: _, _ :: _, ⟨_, h⟩ => by simp [all2_length h]
  | [], _ :: _, h => h.elim
  | _ :: _, [], h => h.elim
theorem all2_get {α γ : Type} {R : α → γ → Prop} : ∀ {as : List α} {cs : List γ}, all2 R as cs → ∀ {i : Nat} {a : α}, as[i]? = some a → ∃ c, cs[i]? = some c ∧ R a c
  | a :: as, c :: cs, ⟨h, _⟩, 0, _, e => by simp at e; subst e; exact ⟨c, rfl, h⟩
  | _ :: as, _ :: cs, ⟨_, h⟩, i + 1, _, e => by
    obtain ⟨c, h1, h2⟩ := all2_get h (i := i) (by simpa using e)
    exact ⟨c, by simpa using h1, h2⟩
  | [], [], _, _, _, e => by simp at e
  | [], _ :: _, h, _, _, _ => h.elim
  | _ :: _, [], h, _, _, _ => h.elim
theorem Blk.cellsRel_length {β : Names} {x : Blk} {cs : List Value} (h : x.cellsRel β cs) : cs.length = x.size := by
  unfold Blk.cellsRel at h
  unfold Blk.size
  split at h
  · simp [h, FK.cells_length]
  · simp [all2_length h]
  · exact h.2.1
  · exact h.elim
def locAt (blk base : Nat) : List Blk → Nat → Option Loc
  | [], _ => none
  | x :: _, 0 => some (Loc.lin blk base x.size)
  | x :: r, i + 1 => locAt blk (base + x.size) r i
def names (n : Nat) : List Blk → List (Nat × Nat)
  | [] => []
  | x :: r => (n, x.size) :: names (n + 1) r
def extNames (β : Names) (n blk : Nat) (bs : List Blk) : Names := fun b => if b < n then β b else locAt blk 0 bs (b - n)
theorem locAt_none {blk base : Nat} : ∀ {bs : List Blk} {i : Nat}, bs.length ≤ i → locAt blk base bs i = none
  | [], _, _ => by simp [locAt]
  | x :: r, 0, h => by simp at h
  | x :: r, i + 1, h => locAt_none (bs := r) (by simpa using h)
theorem locAt_some {blk : Nat} : ∀ {bs : List Blk} {base i : Nat} {x : Blk}, bs[i]? = some x → ∃ o, locAt blk base bs i = some (Loc.lin blk o x.size) ∧ base ≤ o
  | [], _, _, _, h => by simp at h
  | x :: r, base, 0, y, h => by simp at h; subst h; exact ⟨base, rfl, Nat.le_refl _⟩
  | x :: r, base, i + 1, y, h => by
    obtain ⟨o, h1, h2⟩ := locAt_some (base := base + x.size) (show r[i]? = some y by simpa using h)
    exact ⟨o, h1, by omega⟩
theorem chained_locAt {blk : Nat} {γ : Names} : ∀ {bs : List Blk} {n base : Nat}, (∀ i, i < bs.length → γ (n + i) = locAt blk base bs i) → chained γ blk base (names n bs)
  | [], _, _, _ => trivial
  | x :: r, n, base, h => by
    refine ⟨by have := h 0 (by simp); simpa [locAt] using this, chained_locAt fun i hi => ?_⟩
    have := h (i + 1) (by simpa using hi)
    rw [show n + 1 + i = n + (i + 1) by omega, this]; rfl
theorem locAt_apart {blk : Nat} : ∀ {bs : List Blk} {base i j : Nat} {L M : Loc}, i < j → locAt blk base bs i = some L → locAt blk base bs j = some M → ∃ o1 s1 o2 s2, L = Loc.lin blk o1 s1 ∧ M = Loc.lin blk o2 s2 ∧ o1 + s1 ≤ o2
  | [], _, _, _, _, _, _, h, _ => by simp [locAt] at h
  | x :: r, base, 0, j + 1, L, M, _, h, k => by
    simp only [locAt, Option.some.injEq] at h
    simp only [locAt] at k
    have hj : r[j]?.isSome := by
      cases hr : r[j]? with
      | none => rw [locAt_none (by simpa using hr)] at k; cases k
      | some y => rfl
    obtain ⟨y, hy⟩ := Option.isSome_iff_exists.1 hj
    obtain ⟨o, h1, h2⟩ := locAt_some (blk := blk) (base := base + x.size) hy
    rw [h1] at k; cases k
    exact ⟨base, x.size, o, y.size, h.symm, rfl, h2⟩
  | x :: r, base, i + 1, j + 1, L, M, hij, h, k => locAt_apart (bs := r) (base := base + x.size) (by omega) h k
theorem Blk.rel_of_cells {β : Names} {w : World} {x : Blk} {blk base : Nat} {cs : List Value} (h : x.cellsRel β cs) (hc : ∀ i v, cs[i]? = some v → w.cell? ⟨blk, base + i, none⟩ = some v) (hf : ∀ i, w.frozen? ⟨blk, i, none⟩ = false) : x.rel β (Loc.lin blk base x.size) w := by
  have hl := Blk.cellsRel_length h
  have at' : ∀ i, i < x.size → ∃ v, cs[i]? = some v ∧ w.cell? ⟨blk, base + i, none⟩ = some v := fun i hi => ⟨cs[i], List.getElem?_eq_getElem (by omega), hc i _ (List.getElem?_eq_getElem (by omega))⟩
  refine ⟨fun _ B X ho => ?_, ?_⟩
  · obtain ⟨rfl, h1, h2⟩ := Loc.lin_own.1 ho
    obtain ⟨v, _, hv⟩ := at' (X - base) (by omega)
    rw [show base + (X - base) = X by omega] at hv
    exact ⟨by rw [hv]; rfl, fun _ => hf X⟩
  · have hpl : ∀ i B X, (Loc.lin blk base x.size).pl i = some (B, X) → i < x.size ∧ B = blk ∧ X = base + i := fun i B X hp => by
      obtain ⟨h1, h2⟩ := Loc.lin_pl.1 hp
      simp only [Prod.mk.injEq] at h2
      exact ⟨h1, h2.1, h2.2⟩
    obtain ⟨rw, c⟩ := x
    cases c with
    | flat n f =>
      intro i B X hp
      obtain ⟨h1, rfl, rfl⟩ := hpl i B X hp
      simp only [Blk.cellsRel] at h
      exact hc i _ (by rw [h]; exact FK.cells_get _ h1)
    | avs vs =>
      refine ⟨fun i hi => ⟨_, _, Loc.lin_pl.2 ⟨hi, rfl⟩⟩, fun i B X hp => ?_⟩
      obtain ⟨h1, rfl, rfl⟩ := hpl i B X hp
      simp only [Blk.cellsRel] at h
      obtain ⟨u, h2, h3⟩ := all2_get h (List.getElem?_eq_getElem h1)
      exact ⟨_, u, List.getElem?_eq_getElem h1, hc i u h2, h3⟩
    | hdr p n q of ln cp =>
      simp only [Blk.cellsRel] at h
      refine ⟨h.1, fun i B X hp => ?_⟩
      obtain ⟨h1, rfl, rfl⟩ := hpl i B X hp
      obtain ⟨v, h2, h3⟩ := at' i h1
      exact ⟨v, h3, h.2.2 i v h2⟩
    | dead => trivial
theorem blks_locAt {γ : Names} {w : World} {blk : Nat} : ∀ {bs : List Blk} {cs : List Value} {base : Nat}, blksRel γ bs cs → (∀ i v, cs[i]? = some v → w.cell? ⟨blk, base + i, none⟩ = some v) → (∀ i, w.frozen? ⟨blk, i, none⟩ = false) →
    ∀ i x, bs[i]? = some x → x.c ≠ .dead ∧ ∃ L, locAt blk base bs i = some L ∧ x.rel γ L w
  | [], _, _, _, _, _, i, x, hx => by simp at hx
  | y :: r, cs, base, ⟨c1, c2, he, h1, h2⟩, hc, hf, 0, x, hx => by
    simp at hx; subst hx
    refine ⟨fun hd => by unfold Blk.cellsRel at h1; simp only [hd] at h1, _, rfl, Blk.rel_of_cells h1 (fun i v hv => hc i v ?_) hf⟩
    rw [he, List.getElem?_append_left (List.getElem?_eq_some_iff.1 hv).1]; exact hv
  | y :: r, cs, base, ⟨c1, c2, he, h1, h2⟩, hc, hf, i + 1, x, hx => by
    have hl := Blk.cellsRel_length h1
    refine blks_locAt (base := base + y.size) h2 (fun j v hv => ?_) hf i x (by simpa using hx)
    have := hc (c1.length + j) v (by rw [he, List.getElem?_append_right (by omega)]; simpa using hv)
    rw [hl, ← Nat.add_assoc] at this
    exact this
theorem blksRel_le {β γ : Names} (h : β.le γ) : ∀ {bs : List Blk} {cs : List Value}, blksRel β bs cs → blksRel γ bs cs
  | [], _, r => r
  | x :: xs, _, ⟨c1, c2, he, h1, h2⟩ => by
    refine ⟨c1, c2, he, ?_, blksRel_le h h2⟩
    unfold Blk.cellsRel at *
    split
    · rename_i hx; simp only [hx] at h1; exact h1
    · rename_i hx; simp only [hx] at h1; exact all2_mono (fun _ _ p => AV.rel1_le h p) h1
    · rename_i hx; simp only [hx] at h1
      obtain ⟨⟨M, hM, hq⟩, e1, e2⟩ := h1
      exact ⟨⟨M, h _ _ hM, hq⟩, e1, fun i u hu => AV.rel1_le h (e2 i u hu)⟩
    · rename_i hx; simp only [hx] at h1
theorem alloc_ok {β : Names} {n : Nat} {w : World} {bs : List Blk} {cs : List Value} (T : TypeId) (hf : ∀ b, n ≤ b → β b = none) (hr : blksRel β bs cs) :
    NewOk β (extNames β n w.heap.size bs) n bs w (w.alloc (.cells cs.toArray T)) ∧ chained (extNames β n w.heap.size bs) w.heap.size 0 (names n bs) ∧
      Below w.heap.size w (w.alloc (.cells cs.toArray T)) := by
  have hle : β.le (extNames β n w.heap.size bs) := by
    intro b L hb
    unfold extNames
    by_cases hlt : b < n
    · rw [if_pos hlt]; exact hb
    · rw [hf b (by omega)] at hb; cases hb
  have hat : ∀ i, extNames β n w.heap.size bs (n + i) = locAt w.heap.size 0 bs i := by
    intro i; unfold extNames; rw [if_neg (by omega)]; congr 1; omega
  refine ⟨⟨?_, ?_, ?_, ?_⟩, ?_, (Below.refl _ _).alloc (Nat.le_refl _) _⟩
  · intro b hb; unfold extNames; rw [if_pos hb]
  · intro b hb
    rw [show b = n + (b - n) by omega, hat]
    exact locAt_none (by omega)
  · intro i x hx
    obtain ⟨hd, L, h1, h2⟩ := blks_locAt (w := w.alloc (.cells cs.toArray T)) (blk := w.heap.size) (base := 0) (blksRel_le hle hr)
      (fun i v hv => by rw [World.cell?_alloc_new]; simpa using hv) (fun i => World.frozen?_alloc_new w _ _ _) i x hx
    obtain ⟨o, h3, _⟩ := locAt_some (blk := w.heap.size) (base := 0) hx
    rw [h3] at h1; cases h1
    exact ⟨_, by rw [hat]; exact h3, h2, Loc.grow_inj, fun B X ho => by have := Loc.lin_own.1 ho; omega, hd⟩
  · intro i j x y L M B X hne hx hy hL hM ho ho'
    rw [hat] at hL hM
    rcases Nat.lt_or_gt_of_ne hne with hlt | hlt
    · obtain ⟨o1, s1, o2, s2, rfl, rfl, hle⟩ := locAt_apart hlt hL hM
      have := Loc.lin_own.1 ho
      have := Loc.lin_own.1 ho'
      omega
    · obtain ⟨o1, s1, o2, s2, rfl, rfl, hle⟩ := locAt_apart hlt hM hL
      have := Loc.lin_own.1 ho
      have := Loc.lin_own.1 ho'
      omega
  · exact chained_locAt fun i _ => hat i
end Go.Proofs.YtoeailachidcdaaGreatDoor.Hg
