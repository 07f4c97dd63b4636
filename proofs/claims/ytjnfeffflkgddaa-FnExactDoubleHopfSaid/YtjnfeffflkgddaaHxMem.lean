/- Loads and stores on abstract memory, held against the model's. -/
import Derived.Test.YtjnfeffflkgddaaHxOps
import Derived.Laws.Cells
import Derived.Laws.Tables
import Derived.Laws.Rows
import Derived.WalkKit
namespace Go.Proofs.Ytjnfeffflkgddaa.Hx
set_option linter.unusedVariables false
set_option linter.unusedSimpArgs false
open Go Go.RowKit

def upd (g : Nat → Int) (o : Nat) (x : Int) : Nat → Int := fun i => if i = o then x else g i
def updN (g : Nat → Int) (o n : Nat) (v : Nat → Int) : Nat → Int := fun i => if o ≤ i ∧ i < o + n then v (i - o) else g i

theorem at_add (L : Loc) (o j : Nat) : (L.at o).add j = L.at (o + j) := by
  unfold Addr.add Loc.at
  split
  · simp_all
  · simp; omega

theorem add_mk (B o j : Nat) : (⟨B, o, none⟩ : Addr).add j = ⟨B, o + j, none⟩ := by
  unfold Addr.add
  split <;> simp_all

section
variable {P : Program} {w : World}

theorem run_loadVar_one {t : TypeId} {a : Addr} {d : TypeDesc} {v : Value} (hu : P.underlying t = some d) (hd : aggT P t = false) (hc : w.cell? a = some v) : (loadVar t a).run P w = .ok v w := by
  have hagg : (isAgg t).run P w = .ok false w := by
    unfold isAgg
    rw [Sem.run_bind, run_underlying hu w]
    unfold aggT at hd; rw [hu] at hd
    cases d <;> simp_all
  simp [loadVar, Sem.run_bind, hagg, hc]

theorem run_loadVar_many {t : TypeId} {a : Addr} {d : TypeDesc} {cs : List Value} (hu : P.underlying t = some d) (hd : aggT P t = true) (hi : (P.info? t).map (·.size) = some cs.length)
    (hc : ∀ j v, cs[j]? = some v → w.cell? (a.add j) = some v) : (loadVar t a).run P w = .ok (.agg cs.toArray) w := by
  have hagg : (isAgg t).run P w = .ok true w := by
    unfold isAgg
    rw [Sem.run_bind, run_underlying hu w]
    unfold aggT at hd; rw [hu] at hd
    cases d <;> simp_all
  have hl := run_loadCells_list (P := P) w a cs hc
  cases hq : P.info? t with
  | none => simp [hq] at hi
  | some i =>
    have hs : i.size = cs.length := by simpa [hq] using hi
    simp [loadVar, Sem.run_bind, hagg, sizeOf, typeInfo, hq, hs, hl]

/-! stores of several cells -/

def setCells (w : World) (B : Nat) : Nat → List Value → World
  | _, [] => w
  | o, v :: r => setCells (w.setCell ⟨B, o, none⟩ v) B (o + 1) r

theorem setCells_append (w : World) (B : Nat) : ∀ (o : Nat) (xs ys : List Value), setCells w B o (xs ++ ys) = setCells (setCells w B o xs) B (o + xs.length) ys
  | o, [], ys => by simp [setCells]
  | o, x :: xs, ys => by
    simp only [List.cons_append, setCells]
    rw [setCells_append]
    simp only [List.length_cons]
    congr 1; omega

theorem setCells_other : ∀ (vs : List Value) (w : World) (B o : Nat) (a : Addr), ¬ (a.block = B ∧ o ≤ a.off ∧ a.off < o + vs.length) → (setCells w B o vs).cell? a = w.cell? a
  | [], _, _, _, _, _ => rfl
  | v :: r, w, B, o, a, h => by
    simp only [setCells]
    rw [setCells_other r _ B (o + 1) a (by simp only [List.length_cons] at h; omega)]
    apply World.cell?_setCell_other
    rintro rfl
    exact h ⟨rfl, Nat.le_refl _, by simp⟩

theorem setCells_same : ∀ (vs : List Value) (w : World) (B o j : Nat) (v : Value), vs[j]? = some v → (∀ i, i < vs.length → ∃ u, w.cell? ⟨B, o + i, none⟩ = some u) → (setCells w B o vs).cell? ⟨B, o + j, none⟩ = some v
  | [], _, _, _, _, _, h, _ => by simp at h
  | x :: r, w, B, o, 0, v, h, hc => by
    simp at h; subst h
    simp only [setCells]
    rw [setCells_other r _ B (o + 1) _ (by simp; omega)]
    obtain ⟨u, hu⟩ := hc 0 (by simp)
    exact World.cell?_setCell_same w _ _ hu
  | x :: r, w, B, o, j + 1, v, h, hc => by
    simp only [setCells]
    rw [show o + (j + 1) = o + 1 + j by omega]
    refine setCells_same r _ B (o + 1) j v (by simpa using h) (fun i hi => ?_)
    obtain ⟨u, hu⟩ := hc (i + 1) (by simpa using hi)
    refine ⟨u, ?_⟩
    rw [World.cell?_setCell_other _ _ _ _ (by simp), show o + 1 + i = o + (i + 1) by omega]
    exact hu

theorem setCells_frozen : ∀ (vs : List Value) (w : World) (B o : Nat) (a : Addr), (setCells w B o vs).frozen? a = w.frozen? a
  | [], _, _, _, _ => rfl
  | v :: r, w, B, o, a => by simp only [setCells]; rw [setCells_frozen r]; exact World.frozen?_setCell w _ _ _

theorem setCells_size : ∀ (vs : List Value) (w : World) (B o : Nat), (setCells w B o vs).heap.size = w.heap.size
  | [], _, _, _ => rfl
  | v :: r, w, B, o => by simp only [setCells]; rw [setCells_size r]; exact World.size_setCell w _ _

theorem setCells_heap : ∀ (vs : List Value) (w : World) (B o k : Nat), k ≠ B → (setCells w B o vs).heap[k]? = w.heap[k]?
  | [], _, _, _, _, _ => rfl
  | v :: r, w, B, o, k, h => by simp only [setCells]; rw [setCells_heap r _ _ _ _ h]; exact heap_setCell_other w ⟨B, o, none⟩ k v h

theorem setCells_rest : ∀ (vs : List Value) (w : World) (B o : Nat), (setCells w B o vs).os = w.os ∧ (setCells w B o vs).tape = w.tape ∧ (setCells w B o vs).output = w.output
  | [], _, _, _ => ⟨rfl, rfl, rfl⟩
  | v :: r, w, B, o => by simp only [setCells]; exact setCells_rest r _ B (o + 1)

theorem run_storeCells : ∀ (vs : List Value) (w : World) (B o i : Nat), (∀ j, j < vs.length → (∃ u, w.cell? ⟨B, o + i + j, none⟩ = some u) ∧ w.frozen? ⟨B, o + i + j, none⟩ = false) → (∀ v ∈ vs, v.oneCell' = true) →
    (storeCells ⟨B, o, none⟩ vs i).run P w = .ok () (setCells w B (o + i) vs)
  | [], _, _, _, _, _, _ => rfl
  | v :: r, w, B, o, i, h, h1 => by
    obtain ⟨⟨u, hu⟩, hf⟩ := h 0 (by simp)
    simp only [Nat.add_zero] at hu hf
    simp only [storeCells, Sem.run_bind, add_mk, run_store _ _ _ _ _ (h1 v (by simp)), hu, hf, Bool.false_eq_true, if_false, Result.andThen_ok, setCells]
    rw [run_storeCells r _ B o (i + 1) (fun j hj => ?_) (fun x hx => h1 x (by simp [hx]))]
    · rfl
    · obtain ⟨⟨u', hu'⟩, hf'⟩ := h (j + 1) (by simpa using hj)
      rw [show o + (i + 1) + j = o + i + (j + 1) by omega]
      refine ⟨⟨u', ?_⟩, ?_⟩
      · rw [World.cell?_setCell_other _ _ _ _ (by simp)]; exact hu'
      · rw [World.frozen?_setCell]; exact hf'

end

/-- One block is written: the rest of the abstract memory stands. -/
theorem HRel.put {β : Names} {h : Heap} {w w' : World} {b : Nat} {x x' : Blk} {L : Loc} (r : HRel β h w) (hb : h[b]? = some x) (hrw : x.rw = true) (hL : β b = some L) (hx' : x'.ext L ≤ x.ext L) (hrel : x'.rel β L w')
    (hcell : ∀ a : Addr, ¬ (a.block = L.blk ∧ L.base ≤ a.off ∧ a.off < L.base + x.ext L) → w'.cell? a = w.cell? a) (hfroz : ∀ a : Addr, w'.frozen? a = w.frozen? a) : HRel β (h.set b x') w' where
  blk := by
    intro c y hy hd
    by_cases hcb : c = b
    · subst hcb
      have hlt : c < h.length := (List.getElem?_eq_some_iff.1 hb).1
      rw [List.getElem?_set_self hlt] at hy; cases hy
      exact ⟨L, hL, hrel⟩
    · rw [List.getElem?_set_ne (fun e => hcb e.symm)] at hy
      obtain ⟨M, hM, hr⟩ := r.blk c y hy hd
      refine ⟨M, hM, Blk.rel_world hr (fun i hi => hcell _ ?_) (fun i _ => hfroz _)⟩
      rintro ⟨h1, h2, h3⟩
      have := r.disj b c x y L M (fun e => hcb e.symm) hb hy hL hM hrw (M.base + i - L.base) i (by simp only [Loc.at] at h2 h3; omega) hi h1.symm
      simp only [Loc.at] at h2 h3
      omega
  disj := by
    intro c d y z M N hne hy hz hM hN hyrw i j hi hj he
    by_cases hcb : c = b
    · subst hcb
      have hlt : c < h.length := (List.getElem?_eq_some_iff.1 hb).1
      rw [List.getElem?_set_self hlt] at hy; cases hy
      rw [List.getElem?_set_ne hne] at hz
      rw [hL] at hM; cases hM
      exact r.disj c d x z L N hne hb hz hL hN hrw i j (by omega) hj he
    · rw [List.getElem?_set_ne (fun e => hcb e.symm)] at hy
      by_cases hdb : d = b
      · subst hdb
        have hlt : d < h.length := (List.getElem?_eq_some_iff.1 hb).1
        rw [List.getElem?_set_self hlt] at hz; cases hz
        rw [hL] at hN; cases hN
        exact r.disj c d y x M L hne hy hb hM hL hyrw i j hi (by omega) he
      · rw [List.getElem?_set_ne (fun e => hdb e.symm)] at hz
        exact r.disj c d y z M N hne hy hz hM hN hyrw i j hi hj he
  fresh := by intro c hc; exact r.fresh c (by simpa using hc)

theorem Mine.put {β : Names} {h : Heap} {b : Nat} {x x' : Blk} {L : Loc} (hb : h[b]? = some x) (hrw : x.rw = true) (hL : β b = some L) (hx' : x'.ext L ≤ x.ext L) (a : Addr) (m : Mine β (h.set b x') a) : Mine β h a := by
  obtain ⟨c, y, M, i, hy, hyrw, hM, hi, h1, h2⟩ := m
  by_cases hcb : c = b
  · subst hcb
    have hlt : c < h.length := (List.getElem?_eq_some_iff.1 hb).1
    rw [List.getElem?_set_self hlt] at hy; cases hy
    rw [hL] at hM; cases hM
    exact ⟨c, x, L, i, hb, hrw, hL, by omega, h1, h2⟩
  · rw [List.getElem?_set_ne (fun e => hcb e.symm)] at hy
    exact ⟨c, y, M, i, hy, hyrw, hM, hi, h1, h2⟩

/-- A write of the cells 'vs' from o on, inside a block that may be written. -/
theorem write_ok {P : Program} {β : Names} {h : Heap} {w : World} {b o : Nat} {x x' : Blk} {L : Loc} {vs : List Value} (r : HRel β h w) (hb : h[b]? = some x) (hrw : x.rw = true) (hL : β b = some L) (hx : x.c ≠ .dead)
    (hin : o + vs.length ≤ L.cells) (hpos : 0 < vs.length) (hone : ∀ v ∈ vs, v.oneCell' = true) (hx' : x'.ext L ≤ x.ext L)
    (hrel : x'.rel β L (setCells w L.blk (L.base + o) vs)) :
    (storeCells (L.at o) vs).run P w = .ok () (setCells w L.blk (L.base + o) vs) ∧ HRel β (h.set b x') (setCells w L.blk (L.base + o) vs) ∧ Ext (Mine β h) w (setCells w L.blk (L.base + o) vs) := by
  obtain ⟨L', hL', hr⟩ := r.blk b x hb hx
  rw [hL] at hL'; cases hL'
  have hext : x.ext L = L.cells := by unfold Blk.ext; split <;> simp_all
  have hcells : ∀ j, j < vs.length → (∃ u, w.cell? ⟨L.blk, L.base + o + 0 + j, none⟩ = some u) ∧ w.frozen? ⟨L.blk, L.base + o + 0 + j, none⟩ = false := by
    intro j hj
    have hlt : o + j < L.cells := by omega
    have e : (⟨L.blk, L.base + o + 0 + j, none⟩ : Addr) = L.at (o + j) := by simp [Loc.at]; omega
    rw [e]
    refine ⟨Blk.rel_cell hr (by rw [hext]; exact hlt), ?_⟩
    unfold Blk.rel at hr
    split at hr
    · exact (hr.2 (o + j) (by omega)).2 hrw
    · rename_i us hc
      obtain ⟨v, hv⟩ : ∃ v, us[o + j]? = some v := ⟨us[o + j]'(by omega), List.getElem?_eq_getElem (by omega)⟩
      obtain ⟨_, _, _, hf⟩ := hr.2 (o + j) v hv
      exact hf hrw
    · rename_i hc; exact absurd hc hx
  have hrun := run_storeCells (P := P) vs w L.blk (L.base + o) 0 hcells hone
  have hother : ∀ a : Addr, ¬ (a.block = L.blk ∧ L.base ≤ a.off ∧ a.off < L.base + x.ext L) → (setCells w L.blk (L.base + o) vs).cell? a = w.cell? a := by
    intro a ha
    apply setCells_other
    rintro ⟨h1, h2, h3⟩
    exact ha ⟨h1, by omega, by omega⟩
  obtain ⟨h1, h2, h3⟩ := setCells_rest vs w L.blk (L.base + o)
  refine ⟨hrun, r.put hb hrw hL hx' hrel hother (setCells_frozen vs w _ _), ⟨h1, h2, h3, by rw [setCells_size]; exact Nat.le_refl _, ?_, ?_, fun a _ => setCells_frozen vs w _ _ a⟩⟩
  · intro B _ hM
    apply setCells_heap
    rintro rfl
    exact hM (L.at 0) rfl ⟨b, x, L, 0, hb, hrw, hL, by omega, rfl, rfl⟩
  · intro a _ hM
    apply hother
    rintro ⟨h1, h2, h3⟩
    exact hM ⟨b, x, L, a.off - L.base, hb, hrw, hL, by omega, h1, by omega⟩

end Go.Proofs.Ytjnfeffflkgddaa.Hx
