import Derived.Test.YtoeailachidcdaaGreatDoorHgOps
import Derived.Laws.Cells
import Derived.Laws.Tables
import Derived.Laws.Rows
import Derived.WalkKit
namespace Go.Proofs.YtoeailachidcdaaGreatDoor.Hg
set_option linter.unusedVariables false
set_option linter.unusedSimpArgs false
set_option linter.unusedSectionVars false
open Go Go.RowKit
variable [Gl : Glob]
def upd {α : Type} (g : Nat → α) (o : Nat) (x : α) : Nat → α := fun i => if i = o then x else g i
def joinN {α : Type} (q : Nat) (g v : Nat → α) : Nat → α := fun i => if i < q then g i else v (i - q)
def updN {α : Type} (g : Nat → α) (o n : Nat) (v : Nat → α) : Nat → α := fun i => if o ≤ i ∧ i < o + n then v (i - o) else g i
def FK.updN (f : FK) (o n : Nat) (v : FK) : Option FK := match f, v with
  | .ints k g, .ints k' g' => if k = k' then some (.ints k (Hg.updN g o n g')) else none
  | .strs g, .strs g' => some (.strs (Hg.updN g o n g'))
  | .bools g, .bools g' => some (.bools (Hg.updN g o n g'))
  | _, _ => none
def FK.join (q : Nat) (f v : FK) : Option FK := match f, v with
  | .ints k g, .ints k' g' => if k = k' then some (.ints k (joinN q g g')) else none
  | .strs g, .strs g' => some (.strs (joinN q g g'))
  | .bools g, .bools g' => some (.bools (joinN q g g'))
  | _, _ => none
def FK.put (f : FK) (o : Nat) (v : AV) : Option FK := match f, v with
  | .ints k g, .int k' n => if k = k' then some (.ints k (upd g o n)) else none
  | .strs g, .str s => some (.strs (upd g o s))
  | .bools g, .bool b => some (.bools (upd g o b))
  | _, _ => none
theorem FK.updN_at {f v r : FK} {o n : Nat} (h : f.updN o n v = some r) (i : Nat) : r.at i = if o ≤ i ∧ i < o + n then v.at (i - o) else f.at i := by
  unfold FK.updN at h
  split at h
  · split at h
    · cases h; rename_i hk; subst hk; simp only [FK.at, Hg.updN]; split <;> rfl
    · cases h
  · cases h; simp only [FK.at, Hg.updN]; split <;> rfl
  · cases h; simp only [FK.at, Hg.updN]; split <;> rfl
  · cases h
theorem FK.join_at {f v r : FK} {q : Nat} (h : FK.join q f v = some r) (i : Nat) : r.at i = if i < q then f.at i else v.at (i - q) := by
  unfold FK.join at h
  split at h
  · split at h
    · cases h; rename_i hk; subst hk; simp only [FK.at, joinN]; split <;> rfl
    · cases h
  · cases h; simp only [FK.at, joinN]; split <;> rfl
  · cases h; simp only [FK.at, joinN]; split <;> rfl
  · cases h
theorem FK.put_at {f r : FK} {o : Nat} {v : AV} (h : f.put o v = some r) {β : Names} {u : Value} (hu : v.rel1 β u) (i : Nat) : r.at i = if i = o then u else f.at i := by
  unfold FK.put at h
  split at h
  · split at h
    · cases h; rename_i hk; subst hk; cases hu; simp only [FK.at, upd]; split <;> rfl
    · cases h
  · cases h; cases hu; simp only [FK.at, upd]; split <;> rfl
  · cases h; cases hu; simp only [FK.at, upd]; split <;> rfl
  · cases h
theorem add_mk (B o j : Nat) : (⟨B, o, none⟩ : Addr).add j = ⟨B, o + j, none⟩ := by
  unfold Addr.add
  split <;> simp_all
section
variable {P : Program} {w : World}
theorem run_loadVar_one {t : TypeId} {a : Addr} {d : TypeDesc} {v : Value} (hu : P.underlying t = some d) (hd : aggT P t = false) (hc : w.cell? a = some v) : (loadVar t a).run P w = .ok v w := by
  have hagg : (isAgg t).run P w = .ok false w := by
    unfold isAgg
    rw [Sem.run_bind, run_underlying hu w]
    unfold aggT at hd; rw [hu] at hd
    cases d <;> simp_all
  simp [loadVar, Sem.run_bind, hagg, hc]
theorem run_loadVar_many {t : TypeId} {a : Addr} {d : TypeDesc} {cs : List Value} (hu : P.underlying t = some d) (hd : aggT P t = true) (hi : (P.info? t).map (·.size) = some cs.length)
    (hc : ∀ j v, cs[j]? = some v → w.cell? (a.add j) = some v) : (loadVar t a).run P w = .ok (.agg cs.toArray) w := by
  have hagg : (isAgg t).run P w = .ok true w := by
    unfold isAgg
    rw [Sem.run_bind, run_underlying hu w]
    unfold aggT at hd; rw [hu] at hd
    cases d <;> simp_all
  have hl := run_loadCells_list (P := P) w a cs hc
  cases hq : P.info? t with
  | none => simp [hq] at hi
  | some i =>
    have hs : i.size = cs.length := by simpa [hq] using hi
    simp [loadVar, Sem.run_bind, hagg, sizeOf, typeInfo, hq, hs, hl]
def setCells (w : World) (B : Nat) : Nat → List Value → World
  | _, [] => w
  | o, v :: r => setCells (w.setCell ⟨B, o, none⟩ v) B (o + 1) r
theorem setCells_append (w : World) (B : Nat) : ∀ (o : Nat) (xs ys : List Value), setCells w B o (xs ++ ys) = setCells (setCells w B o xs) B (o + xs.length) ys
  | o, [], ys => by simp [setCells]
  | o, x :: xs, ys => by
    simp only [List.cons_append, setCells]
    rw [setCells_append]
    simp only [List.length_cons]
    congr 1; omega
theorem setCells_other : ∀ (vs : List Value) (w : World) (B o : Nat) (a : Addr), ¬ (a.block = B ∧ o ≤ a.off ∧ a.off < o + vs.length) → (setCells w B o vs).cell? a = w.cell? a
  | [], _, _, _, _, _ => rfl
  | v :: r, w, B, o, a, h => by
    simp only [setCells]
    rw [setCells_other r _ B (o + 1) a (by simp only [List.length_cons] at h; omega)]
    apply World.cell?_setCell_other
    rintro rfl
    exact h ⟨rfl, Nat.le_refl _, by simp⟩
theorem setCells_same : ∀ (vs : List Value) (w : World) (B o j : Nat) (v : Value), vs[j]? = some v → (∀ i, i < vs.length → ∃ u, w.cell? ⟨B, o + i, none⟩ = some u) → (setCells w B o vs).cell? ⟨B, o + j, none⟩ = some v
  | [], _, _, _, _, _, h, _ => by simp at h
  | x :: r, w, B, o, 0, v, h, hc => by
    simp at h; subst h
    simp only [setCells]
    rw [setCells_other r _ B (o + 1) _ (by simp; omega)]
    obtain ⟨u, hu⟩ := hc 0 (by simp)
    exact World.cell?_setCell_same w _ _ hu
  | x :: r, w, B, o, j + 1, v, h, hc => by
    simp only [setCells]
    rw [show o + (j + 1) = o + 1 + j by omega]
    refine setCells_same r _ B (o + 1) j v (by simpa using h) (fun i hi => ?_)
    obtain ⟨u, hu⟩ := hc (i + 1) (by simpa using hi)
    refine ⟨u, ?_⟩
    rw [World.cell?_setCell_other _ _ _ _ (by simp), show o + 1 + i = o + (i + 1) by omega]
    exact hu
theorem setCells_frozen : ∀ (vs : List Value) (w : World) (B o : Nat) (a : Addr), (setCells w B o vs).frozen? a = w.frozen? a
  | [], _, _, _, _ => rfl
  | v :: r, w, B, o, a => by simp only [setCells]; rw [setCells_frozen r]; exact World.frozen?_setCell w _ _ _
theorem setCells_size : ∀ (vs : List Value) (w : World) (B o : Nat), (setCells w B o vs).heap.size = w.heap.size
  | [], _, _, _ => rfl
  | v :: r, w, B, o => by simp only [setCells]; rw [setCells_size r]; exact World.size_setCell w _ _
theorem setCells_heap : ∀ (vs : List Value) (w : World) (B o k : Nat), k ≠ B → (setCells w B o vs).heap[k]? = w.heap[k]?
  | [], _, _, _, _, _ => rfl
  | v :: r, w, B, o, k, h => by simp only [setCells]; rw [setCells_heap r _ _ _ _ h]; exact heap_setCell_other w ⟨B, o, none⟩ k v h
theorem setCells_rest : ∀ (vs : List Value) (w : World) (B o : Nat), (setCells w B o vs).os = w.os ∧ (setCells w B o vs).tape = w.tape ∧ (setCells w B o vs).output = w.output
  | [], _, _, _ => ⟨rfl, rfl, rfl⟩
  | v :: r, w, B, o => by simp only [setCells]; exact setCells_rest r _ B (o + 1)
theorem run_storeCells : ∀ (vs : List Value) (w : World) (B o i : Nat), (∀ j, j < vs.length → (∃ u, w.cell? ⟨B, o + i + j, none⟩ = some u) ∧ w.frozen? ⟨B, o + i + j, none⟩ = false) → (∀ v ∈ vs, v.oneCell' = true) →
    (storeCells ⟨B, o, none⟩ vs i).run P w = .ok () (setCells w B (o + i) vs)
  | [], _, _, _, _, _, _ => rfl
  | v :: r, w, B, o, i, h, h1 => by
    obtain ⟨⟨u, hu⟩, hf⟩ := h 0 (by simp)
    simp only [Nat.add_zero] at hu hf
    simp only [storeCells, Sem.run_bind, add_mk, run_store _ _ _ _ _ (h1 v (by simp)), hu, hf, Bool.false_eq_true, if_false, Result.andThen_ok, setCells]
    rw [run_storeCells r _ B o (i + 1) (fun j hj => ?_) (fun x hx => h1 x (by simp [hx]))]
    · rfl
    · obtain ⟨⟨u', hu'⟩, hf'⟩ := h (j + 1) (by simpa using hj)
      rw [show o + (i + 1) + j = o + i + (j + 1) by omega]
      refine ⟨⟨u', ?_⟩, ?_⟩
      · rw [World.cell?_setCell_other _ _ _ _ (by simp)]; exact hu'
      · rw [World.frozen?_setCell]; exact hf'
end
theorem HRel.put {β : Names} {h : Heap} {w w' : World} {b : Nat} {x x' : Blk} {L : Loc} (r : HRel β h w) (hb : h[b]? = some x) (hrw : x.rw = true) (hL : β b = some L) (hd : x.c ≠ .dead) (hrel : x'.rel β L w')
    (hcell : ∀ a : Addr, ¬ L.own a.block a.off → w'.cell? a = w.cell? a) (hfroz : ∀ a : Addr, w'.frozen? a = w.frozen? a) : HRel β (h.set b x') w' where
  blk := by
    intro c y hy hdy
    by_cases hcb : c = b
    · subst hcb
      have hlt : c < h.length := (List.getElem?_eq_some_iff.1 hb).1
      rw [List.getElem?_set_self hlt] at hy; cases hy
      exact ⟨L, hL, hrel⟩
    · rw [List.getElem?_set_ne (fun e => hcb e.symm)] at hy
      obtain ⟨M, hM, hr⟩ := r.blk c y hy hdy
      refine ⟨M, hM, Blk.rel_world hr (fun _ B X ho => hcell _ fun ho' => ?_) (fun _ B X _ => hfroz _)⟩
      exact r.disj b c x y L M B X (fun e => hcb e.symm) hb hy hL hM hrw hd hdy ho' ho
  disj := by
    intro c d y z M N B X hne hy hz hM hN hyrw hdy hdz ho ho'
    by_cases hcb : c = b
    · subst hcb
      have hlt : c < h.length := (List.getElem?_eq_some_iff.1 hb).1
      rw [List.getElem?_set_ne hne] at hz
      exact r.disj c d x z M N B X hne hb hz hM hN hrw hd hdz ho ho'
    · rw [List.getElem?_set_ne (fun e => hcb e.symm)] at hy
      by_cases hdb : d = b
      · subst hdb
        exact r.disj c d y x M N B X hne hy hb hM hN hyrw hdy hd ho ho'
      · rw [List.getElem?_set_ne (fun e => hdb e.symm)] at hz
        exact r.disj c d y z M N B X hne hy hz hM hN hyrw hdy hdz ho ho'
  inj := by
    intro c y M hy hM hyrw hdy
    by_cases hcb : c = b
    · subst hcb
      exact r.inj c x M hb hM hrw hd
    · rw [List.getElem?_set_ne (fun e => hcb e.symm)] at hy
      exact r.inj c y M hy hM hyrw hdy
  fresh := by intro c hc; exact r.fresh c (by simpa using hc)
  glob := Gl.cells w w' (fun a ha => hcell a fun ho => by have := r.gap b x L a.block a.off hb hrw hd hL ho; omega) r.glob
  gap := by
    intro c y M B X hy hyrw hdy hM ho
    by_cases hcb : c = b
    · subst hcb
      rw [hL] at hM; cases hM
      exact r.gap c x L B X hb hrw hd hL ho
    · rw [List.getElem?_set_ne (fun e => hcb e.symm)] at hy
      exact r.gap c y M B X hy hyrw hdy hM ho
theorem Mine.put {β : Names} {h : Heap} {b : Nat} {x x' : Blk} (hb : h[b]? = some x) (hrw : x.rw = true) (hd : x.c ≠ .dead) (a : Addr) (m : Mine β (h.set b x') a) : Mine β h a := by
  obtain ⟨c, y, M, hy, hyrw, hdy, hM, ho⟩ := m
  by_cases hcb : c = b
  · subst hcb
    exact ⟨c, x, M, hb, hrw, hd, hM, ho⟩
  · rw [List.getElem?_set_ne (fun e => hcb e.symm)] at hy
    exact ⟨c, y, M, hy, hyrw, hdy, hM, ho⟩
theorem write_ok {P : Program} {β : Names} {h : Heap} {w : World} {b o B X : Nat} {x x' : Blk} {L : Loc} {vs : List Value} (r : HRel β h w) (hb : h[b]? = some x) (hrw : x.rw = true) (hL : β b = some L) (hx : x.c ≠ .dead)
    (hin : L.span o vs.length B X) (hone : ∀ v ∈ vs, v.oneCell' = true) (hrel : x'.c.rel β L (setCells w B X vs)) :
    (storeCells ⟨B, X, none⟩ vs).run P w = .ok () (setCells w B X vs) ∧ HRel β (h.set b x') (setCells w B X vs) ∧ Ext (Mine β h) w (setCells w B X vs) := by
  obtain ⟨L', hL', hr⟩ := r.blk b x hb hx
  rw [hL] at hL'; cases hL'
  have hown : ∀ j, j < vs.length → L.own B (X + j) := fun j hj => .inl ⟨o + j, hin j hj⟩
  have hcells : ∀ j, j < vs.length → (∃ u, w.cell? ⟨B, X + 0 + j, none⟩ = some u) ∧ w.frozen? ⟨B, X + 0 + j, none⟩ = false := by
    intro j hj
    obtain ⟨h1, h2⟩ := hr.cells hx B (X + j) (hown j hj)
    exact ⟨Option.isSome_iff_exists.1 h1, h2 hrw⟩
  have hrun := run_storeCells (P := P) vs w B X 0 hcells hone
  have hother : ∀ a : Addr, ¬ L.own a.block a.off → (setCells w B X vs).cell? a = w.cell? a := by
    intro a ha
    apply setCells_other
    rintro ⟨h1, h2, h3⟩
    have := hown (a.off - X) (by omega)
    rw [show X + (a.off - X) = a.off by omega, ← h1] at this
    exact ha this
  have hsome : ∀ B' X', (w.cell? ⟨B', X', none⟩).isSome = true → ((setCells w B X vs).cell? ⟨B', X', none⟩).isSome = true := by
    intro B' X' ha
    by_cases hin' : B' = B ∧ X ≤ X' ∧ X' < X + vs.length
    · obtain ⟨rfl, h2, h3⟩ := hin'
      have := setCells_same vs w B' X (X' - X) _ (List.getElem?_eq_getElem (show X' - X < vs.length by omega)) (fun i hi => by
        have := (hcells i hi).1
        simpa using this)
      rw [show X + (X' - X) = X' by omega] at this
      rw [this]; rfl
    · rw [setCells_other _ _ _ _ _ hin']; exact ha
  obtain ⟨h1, h2, h3⟩ := setCells_rest vs w B X
  refine ⟨by simpa using hrun, r.put hb hrw hL hx ⟨fun _ B' X' ho => ?_, hrel⟩ hother (setCells_frozen vs w _ _), ⟨h1, h2, h3, by rw [setCells_size]; exact Nat.le_refl _, ?_, ?_, fun a _ => setCells_frozen vs w _ _ a⟩⟩
  · obtain ⟨e1, e2⟩ := hr.cells hx B' X' ho
    exact ⟨hsome B' X' e1, fun _ => by rw [setCells_frozen]; exact e2 hrw⟩
  · intro B0 _ hM
    cases vs with
    | nil => rfl
    | cons v vs =>
      apply setCells_heap
      rintro rfl
      exact hM ⟨B0, X, none⟩ rfl ⟨b, x, L, hb, hrw, hx, hL, by simpa using hown 0 (by simp)⟩
  · intro a _ hM
    apply hother
    intro ho
    exact hM ⟨b, x, L, hb, hrw, hx, hL, ho⟩
end Go.Proofs.YtoeailachidcdaaGreatDoor.Hg
