import Derived.Test.YtoeailachidcdaaGreatDoorHgInvoke
namespace Go.Proofs.YtoeailachidcdaaGreatDoor.Hg
set_option linter.unusedVariables false
set_option linter.unusedSimpArgs false
set_option linter.unusedSectionVars false
open Go Go.RowKit
variable [Gl : Glob]
theorem one_of_rel1 {β : Names} {v : AV} {u : Value} (h : v.rel1 β u) (ho : oneAV v = true) : u.oneCell' = true ∧ u.cells = #[u] := by
  cases v <;> simp only [oneAV] at ho <;> try contradiction
  case int => cases h; exact ⟨rfl, rfl⟩
  case bool => cases h; exact ⟨rfl, rfl⟩
  case str => cases h; exact ⟨rfl, rfl⟩
  case ptr => obtain ⟨_, _, _, _, rfl, _⟩ := h; exact ⟨rfl, rfl⟩
  case sptr => obtain ⟨_, _, _, rfl, _⟩ := h; exact ⟨rfl, rfl⟩
  case slice => obtain ⟨_, _, _, _, _, _, rfl, _⟩ := h; exact ⟨rfl, rfl⟩
  case nils => cases h; exact ⟨rfl, rfl⟩
  case fn => obtain ⟨_, rfl, _⟩ := h; exact ⟨rfl, rfl⟩
  case ifc => rcases h with ⟨_, rfl⟩ | ⟨_, t, p, rfl⟩ <;> exact ⟨rfl, rfl⟩
theorem run_one (k : IntKind) (n : Nat) (g : Nat → Int) : ∀ v ∈ Run.cells ⟨k, n, g⟩, v.oneCell' = true := by
  intro v hv
  simp only [Run.cells, List.mem_map] at hv
  obtain ⟨i, _, rfl⟩ := hv
  rfl
theorem FK.at_one (f : FK) (i : Nat) : (f.at i).oneCell' = true ∧ (f.at i).cells = #[f.at i] := by cases f <;> exact ⟨rfl, rfl⟩
theorem run_storeAt {P : Program} {w w' : World} {t : TypeId} {a : Addr} {v : Value} (hs : (P.info? t).map (·.size) = some v.cells.size) (h : (storeCells a v.cells.toList).run P w = .ok () w') : (Instr.storeAt t (.pointer (some a)) v).run P w = .ok () w' := by
  obtain ⟨i, hi, hsz⟩ := info_of_size hs
  have e2 := run_sizeOf' (w := w) hi
  simp [Instr.storeAt, Instr.sureAddr, storeVar, e2, hsz, h]
theorem After.refl {β : Names} {h : Heap} {w : World} (hr : HRel β h w) : After β β h h w w := ⟨Nat.le_refl _, Names.le_refl _, fun _ _ => rfl, hr, Ext.refl _ _, fun _ h => .inl h⟩
theorem After.trans {α β γ : Names} {h h1 h2 : Heap} {w w1 w2 : World} (a : After α β h h1 w w1) (b : After β γ h1 h2 w1 w2) : After α γ h h2 w w2 where
  len := Nat.le_trans a.len b.len
  le := Names.le_trans a.le b.le
  old := fun c hc => by rw [b.old c (Nat.lt_of_lt_of_le hc a.len), a.old c hc]
  rel := b.rel
  ext := a.ext.trans b.ext a.mine
  mine := fun x hx => by
    rcases b.mine x hx with h | h
    · exact a.mine x h
    · exact .inr (Nat.le_trans a.ext.size h)
def Wrote (β : Names) (h h' : Heap) (w w' : World) : Prop := HRel β h' w' ∧ Ext (Mine β h) w w' ∧ (∀ a, Mine β h' a → Mine β h a) ∧ h'.length = h.length
theorem after_wrote {β : Names} {h h' : Heap} {w w' : World} (h1 : Wrote β h h' w w') : After β β h h' w w' where
  len := by rw [h1.2.2.2]; exact Nat.le_refl _
  le := Names.le_refl β
  old := fun _ _ => rfl
  rel := h1.1
  ext := h1.2.1
  mine := fun a ha => .inl (h1.2.2.1 a ha)
def kills : List Nat → Heap → Heap
  | [], h => h
  | d :: r, h => kills r (h.set d ⟨true, .dead⟩)
theorem kills_length : ∀ {ds : List Nat} {h : Heap}, (kills ds h).length = h.length
  | [], _ => rfl
  | d :: r, h => by simp [kills, kills_length (ds := r)]
theorem kills_get : ∀ {ds : List Nat} {h : Heap} {b : Nat}, b ∉ ds → (kills ds h)[b]? = h[b]?
  | [], _, _, _ => rfl
  | d :: r, h, b, hb => by
    simp only [List.mem_cons, not_or] at hb
    simp only [kills]
    rw [kills_get hb.2, List.getElem?_set_ne (fun e => hb.1 e.symm)]
theorem kills_mem : ∀ {ds : List Nat} {h : Heap} {b : Nat} {x : Blk}, b ∈ ds → (kills ds h)[b]? = some x → x.c = .dead
  | d :: r, h, b, x, hb, hx => by
    simp only [kills] at hx
    by_cases hr : b ∈ r
    · exact kills_mem hr hx
    · rw [kills_get hr] at hx
      have : b = d := by simpa [hr] using hb
      subst this
      by_cases hl : b < h.length
      · rw [List.getElem?_set_self hl] at hx; cases hx; rfl
      · rw [List.getElem?_eq_none (by simpa using hl)] at hx; cases hx
theorem kills_live {ds : List Nat} {h : Heap} {b : Nat} {x : Blk} (hx : (kills ds h)[b]? = some x) (hd : x.c ≠ .dead) : b ∉ ds ∧ h[b]? = some x := by
  have hn : b ∉ ds := fun hm => hd (kills_mem hm hx)
  rw [kills_get hn] at hx
  exact ⟨hn, hx⟩
def extN (β : Names) (n : Nat) (L : Loc) : Names := fun b => if b = n then some L else β b
theorem extN_le {β : Names} {n : Nat} {L : Loc} (hf : ∀ b, n ≤ b → β b = none) : β.le (extN β n L) := by
  intro b M hb
  unfold extN
  split
  · rename_i h; subst h; rw [hf b (Nat.le_refl _)] at hb; cases hb
  · exact hb
theorem push_world {β : Names} {h : Heap} {w w' : World} (hr : HRel β h w) {ds : List Nat} (hds : ∀ d ∈ ds, ∃ y M, h[d]? = some y ∧ y.rw = true ∧ y.c ≠ .dead ∧ β d = some M) {x : Blk} {L : Loc} (hx : x.rel (extN β h.length L) L w') (hinj : L.inj)
    (hown : ∀ B X, L.own B X → w.heap.size ≤ B ∨ ∃ d ∈ ds, ∃ M, β d = some M ∧ M.own B X) (hext : Ext (Mine β h) w w')
    (hcell : ∀ a : Addr, a.block < w.heap.size → (∀ d ∈ ds, ∀ M, β d = some M → ¬ M.own a.block a.off) → w'.cell? a = w.cell? a) : After β (extN β h.length L) h (kills ds h ++ [x]) w w' := by
  have hle := extN_le (L := L) hr.fresh
  have hat : ∀ b, b < h.length → extN β h.length L b = β b := fun b hb => by unfold extN; rw [if_neg (by omega)]
  have hself : extN β h.length L h.length = some L := by unfold extN; rw [if_pos rfl]
  have hlive : ∀ (b : Nat) (y : Blk), (kills ds h ++ [x])[b]? = some y → y.c ≠ .dead → (b < h.length ∧ b ∉ ds ∧ h[b]? = some y) ∨ (b = h.length ∧ y = x) := by
    intro b y hy hd
    rcases Nat.lt_or_ge b h.length with hlt | hge
    · rw [List.getElem?_append_left (by rw [kills_length]; exact hlt)] at hy
      obtain ⟨h1, h2⟩ := kills_live hy hd
      exact .inl ⟨hlt, h1, h2⟩
    · rw [List.getElem?_append_right (by rw [kills_length]; exact hge), kills_length] at hy
      have h0 : b - h.length = 0 := by
        have := (List.getElem?_eq_some_iff.1 hy).1
        simpa using this
      rw [h0] at hy
      simp at hy
      exact .inr ⟨by omega, hy.symm⟩
  have hfree : ∀ (b : Nat) (y : Blk) (M : Loc) (B X : Nat), b ∉ ds → h[b]? = some y → y.c ≠ .dead → β b = some M → M.own B X → ∀ d ∈ ds, ∀ N, β d = some N → ¬ N.own B X := by
    intro b y M B X hb hy hd hM ho d hdm N hN ho'
    obtain ⟨z, N', h1, h2, h3, h4⟩ := hds d hdm
    rw [hN] at h4; cases h4
    exact hr.disj d b z y N M B X (fun e => hb (e ▸ hdm)) h1 hy hN hM h2 h3 hd ho' ho
  have hapart : ∀ (b : Nat) (y : Blk) (M : Loc) (B X : Nat), b ∉ ds → h[b]? = some y → y.c ≠ .dead → β b = some M → M.own B X → ¬ L.own B X := by
    intro b y M B X hb hy hd hM ho hL
    rcases hown B X hL with h1 | ⟨d, hdm, N, hN, ho'⟩
    · have := hr.blk_lt hy hM hd ho; omega
    · exact hfree b y M B X hb hy hd hM ho d hdm N hN ho'
  refine ⟨by simp [kills_length], hle, hat, ⟨?_, ?_, ?_, ?_, hr.glob_ext hext, ?_⟩, hext, ?_⟩
  · intro b y hy hd
    rcases hlive b y hy hd with ⟨h1, h2, h3⟩ | ⟨rfl, rfl⟩
    · obtain ⟨M, hM, hrel⟩ := hr.blk b y h3 hd
      refine ⟨M, by rw [hat b h1]; exact hM, Blk.rel_world (Blk.rel_names hle hrel) (fun _ B X ho => ?_) (fun _ B X ho => ?_)⟩
      · exact hcell _ (hr.blk_lt h3 hM hd ho) (hfree b y M B X h2 h3 hd hM ho)
      · exact hext.froz _ (hr.blk_lt h3 hM hd ho)
    · exact ⟨L, hself, hx⟩
  · intro b c y z M N B X hne hy hz hM hN hrw hyd hzd ho ho'
    rcases hlive b y hy hyd with ⟨h1, h2, h3⟩ | ⟨rfl, rfl⟩ <;> rcases hlive c z hz hzd with ⟨g1, g2, g3⟩ | ⟨rfl, rfl⟩
    · rw [hat b h1] at hM
      rw [hat c g1] at hN
      exact hr.disj b c y z M N B X hne h3 g3 hM hN hrw hyd hzd ho ho'
    · rw [hat b h1] at hM
      rw [hself] at hN; cases hN
      exact hapart b y M B X h2 h3 hyd hM ho ho'
    · rw [hself] at hM; cases hM
      rw [hat c g1] at hN
      exact hapart c z N B X g2 g3 hzd hN ho' ho
    · exact hne rfl
  · intro b y M hy hM hrw hyd
    rcases hlive b y hy hyd with ⟨h1, h2, h3⟩ | ⟨rfl, rfl⟩
    · rw [hat b h1] at hM
      exact hr.inj b y M h3 hM hrw hyd
    · rw [hself] at hM; cases hM; exact hinj
  · intro b hb
    simp only [List.length_append, kills_length, List.length_cons, List.length_nil] at hb
    unfold extN
    rw [if_neg (by omega)]
    exact hr.fresh b (by omega)
  · intro b y M B X hy hrw hyd hM ho
    rcases hlive b y hy hyd with ⟨h1, h2, h3⟩ | ⟨rfl, rfl⟩
    · rw [hat b h1] at hM
      exact hr.gap b y M B X h3 hrw hyd hM ho
    · rw [hself] at hM; cases hM
      rcases hown B X ho with h1 | ⟨d, hdm, N, hN, ho'⟩
      · have := Gl.size w hr.glob; omega
      · obtain ⟨z, N', e1, e2, e3, e4⟩ := hds d hdm
        exact hr.gap d z N B X e1 e2 e3 hN ho'
  · rintro a ⟨b, y, M, hy, hrw, hyd, hM, ho⟩
    rcases hlive b y hy hyd with ⟨h1, h2, h3⟩ | ⟨rfl, rfl⟩
    · rw [hat b h1] at hM
      exact .inl ⟨b, y, M, h3, hrw, hyd, hM, ho⟩
    · rw [hself] at hM; cases hM
      rcases hown a.block a.off ho with h1 | ⟨d, hdm, N, hN, ho'⟩
      · exact .inr h1
      · obtain ⟨z, N', e1, e2, e3, e4⟩ := hds d hdm
        rw [hN] at e4; cases e4
        exact .inl ⟨d, z, N, e1, e2, e3, hN, ho'⟩
theorem HRel.redo {β : Names} {h : Heap} {w : World} {b : Nat} {x x' : Blk} {L : Loc} (r : HRel β h w) (hb : h[b]? = some x) (hL : β b = some L) (hd : x.c ≠ .dead) (hrw : x'.rw = true → x.rw = true) (hrel : x'.rel β L w) : After β β h (h.set b x') w w := by
  have hat : ∀ (c : Nat) (y : Blk), (h.set b x')[c]? = some y → (c = b ∧ y = x') ∨ (c ≠ b ∧ h[c]? = some y) := by
    intro c y hy
    by_cases hcb : c = b
    · subst hcb
      rw [List.getElem?_set_self (List.getElem?_eq_some_iff.1 hb).1] at hy; cases hy
      exact .inl ⟨rfl, rfl⟩
    · rw [List.getElem?_set_ne (fun e => hcb e.symm)] at hy
      exact .inr ⟨hcb, hy⟩
  refine ⟨by simp, Names.le_refl _, fun _ _ => rfl, ⟨?_, ?_, ?_, ?_, r.glob, ?_⟩, Ext.refl _ _, ?_⟩
  · intro c y hy hdy
    rcases hat c y hy with ⟨rfl, rfl⟩ | ⟨_, hy⟩
    · exact ⟨L, hL, hrel⟩
    · exact r.blk c y hy hdy
  · intro c d y z M N B X hne hy hz hM hN hyrw hdy hdz ho ho'
    rcases hat c y hy with ⟨rfl, rfl⟩ | ⟨hc, hy'⟩ <;> rcases hat d z hz with ⟨rfl, rfl⟩ | ⟨hd', hz'⟩
    · exact hne rfl
    · exact r.disj c d x z M N B X hne hb hz' hM hN (hrw hyrw) hd hdz ho ho'
    · exact r.disj c d y x M N B X hne hy' hb hM hN hyrw hdy hd ho ho'
    · exact r.disj c d y z M N B X hne hy' hz' hM hN hyrw hdy hdz ho ho'
  · intro c y M hy hM hyrw hdy
    rcases hat c y hy with ⟨rfl, rfl⟩ | ⟨_, hy⟩
    · exact r.inj c x M hb hM (hrw hyrw) hd
    · exact r.inj c y M hy hM hyrw hdy
  · intro c hc; exact r.fresh c (by simpa using hc)
  · intro c y M B X hy hyrw hdy hM ho
    rcases hat c y hy with ⟨rfl, rfl⟩ | ⟨_, hy⟩
    · rw [hL] at hM; cases hM
      exact r.gap c x L B X hb (hrw hyrw) hd hL ho
    · exact r.gap c y M B X hy hyrw hdy hM ho
  · rintro a ⟨c, y, M, hy, hyrw, hdy, hM, ho⟩
    rcases hat c y hy with ⟨rfl, rfl⟩ | ⟨_, hy⟩
    · exact .inl ⟨c, x, M, hb, hrw hyrw, hd, hM, ho⟩
    · exact .inl ⟨c, y, M, hy, hyrw, hdy, hM, ho⟩
theorem cells_after {w : World} {L : Loc} {o B X : Nat} {vs : List Value} (hinj : L.inj) (hsp : L.span o vs.length B X) (hc : ∀ j, j < vs.length → ∃ u, w.cell? ⟨B, X + j, none⟩ = some u) {i B' X' : Nat} (hp : L.pl i = some (B', X')) :
    (∃ v, o ≤ i ∧ i < o + vs.length ∧ vs[i - o]? = some v ∧ (setCells w B X vs).cell? ⟨B', X', none⟩ = some v) ∨ (¬ (o ≤ i ∧ i < o + vs.length) ∧ (setCells w B X vs).cell? ⟨B', X', none⟩ = w.cell? ⟨B', X', none⟩) := by
  by_cases hin : o ≤ i ∧ i < o + vs.length
  · left
    have := hsp (i - o) (by omega)
    rw [show o + (i - o) = i by omega, hp] at this
    simp only [Option.some.injEq, Prod.mk.injEq] at this
    obtain ⟨rfl, rfl⟩ := this
    exact ⟨_, hin.1, hin.2, List.getElem?_eq_getElem (by omega), setCells_same vs w B' X (i - o) _ (List.getElem?_eq_getElem (by omega)) hc⟩
  · right
    refine ⟨hin, setCells_other _ _ _ _ _ ?_⟩
    rintro ⟨h1, h2, h3⟩
    simp only at h1 h2 h3
    subst h1
    have := hsp (X' - X) (by omega)
    rw [show X + (X' - X) = X' by omega] at this
    have := hinj.1 _ _ _ hp this
    omega
theorem span_cells {β : Names} {h : Heap} {w : World} {b : Nat} {x : Blk} {L : Loc} (r : HRel β h w) (hb : h[b]? = some x) (hL : β b = some L) (hd : x.c ≠ .dead) {o n B X : Nat} (hsp : L.span o n B X) : ∀ j, j < n → ∃ u, w.cell? ⟨B, X + j, none⟩ = some u := by
  intro j hj
  obtain ⟨L', hL', hr⟩ := r.blk b x hb hd
  rw [hL] at hL'; cases hL'
  exact Blk.rel_cell hr hd (.inl ⟨o + j, hsp j hj⟩)
theorem flat_write {P : Program} {β : Names} {h : Heap} {w : World} {b o m B X : Nat} {f : FK} {L : Loc} {vs : List Value} (r : HRel β h w) (hb : h[b]? = some ⟨true, .flat m f⟩) (hL : β b = some L) (hsp : L.span o vs.length B X) (hone : ∀ v ∈ vs, v.oneCell' = true) :
    ∃ w', (storeCells ⟨B, X, none⟩ vs).run P w = .ok () w' ∧ (∀ m' f', (∀ j, j < vs.length → vs[j]? = some (f'.at (o + j))) → (∀ i p, L.pl i = some p → ¬ (o ≤ i ∧ i < o + vs.length) → f'.at i = f.at i) → Wrote β h (h.set b ⟨true, .flat m' f'⟩) w w') := by
  have hcs := span_cells r hb hL (by simp) hsp
  have hinj := r.inj b _ L hb hL rfl (by simp)
  obtain ⟨L', hL', hr⟩ := r.blk b _ hb (by simp)
  rw [hL] at hL'; cases hL'
  have hcont := hr.cont
  simp only [Cont.rel] at hcont
  have key : ∀ m' f', (∀ j, j < vs.length → vs[j]? = some (f'.at (o + j))) → (∀ i p, L.pl i = some p → ¬ (o ≤ i ∧ i < o + vs.length) → f'.at i = f.at i) → (storeCells ⟨B, X, none⟩ vs).run P w = .ok () (setCells w B X vs) ∧ HRel β (h.set b ⟨true, .flat m' f'⟩) (setCells w B X vs) ∧ Ext (Mine β h) w (setCells w B X vs) := by
    intro m' f' h1 h2
    refine write_ok (P := P) (x' := ⟨true, .flat m' f'⟩) r hb rfl hL (by simp) hsp hone ?_
    intro i B' X' hp
    rcases cells_after hinj hsp hcs hp with ⟨v, e1, e2, e3, e4⟩ | ⟨e1, e2⟩
    · rw [e4]
      have := h1 (i - o) (by omega)
      rw [e3, show o + (i - o) = i by omega] at this
      exact this
    · rw [e2, hcont i B' X' hp, h2 i _ hp e1]
  have hrun : (storeCells ⟨B, X, none⟩ vs).run P w = .ok () (setCells w B X vs) := by
    have := run_storeCells (P := P) vs w B X 0 (fun j hj => by
      obtain ⟨u, hu⟩ := hcs j hj
      exact ⟨⟨u, by simpa using hu⟩, (hr.cells (by simp) B (X + 0 + j) (.inl ⟨o + j, by simpa using hsp j hj⟩)).2 rfl⟩) hone
    simpa using this
  exact ⟨_, hrun, fun m' f' h1 h2 => ⟨(key m' f' h1 h2).2.1, (key m' f' h1 h2).2.2, fun a => Mine.put hb rfl (by simp) a, by simp⟩⟩
theorem flat_updN {P : Program} {β : Names} {h : Heap} {w : World} {b o m B X : Nat} {f v r : FK} {n : Nat} {L : Loc} (hr : HRel β h w) (hb : h[b]? = some ⟨true, .flat m f⟩) (hL : β b = some L) (hsp : L.span o n B X) (hu : f.updN o n v = some r) :
    ∃ w', (storeCells ⟨B, X, none⟩ (v.cells n)).run P w = .ok () w' ∧ Wrote β h (h.set b ⟨true, .flat m r⟩) w w' := by
  obtain ⟨w', h1, h2⟩ := flat_write (P := P) (vs := v.cells n) hr hb hL (by rw [FK.cells_length]; exact hsp) (fun u hu => by
    simp only [FK.cells, List.mem_map] at hu
    obtain ⟨i, _, rfl⟩ := hu
    exact (FK.at_one v i).1)
  refine ⟨w', h1, h2 m r (fun j hj => ?_) (fun i p hp hn => ?_)⟩
  · rw [FK.cells_length] at hj
    rw [FK.cells_get _ hj, FK.updN_at hu, if_pos ⟨by omega, by omega⟩]
    congr 2; omega
  · rw [FK.cells_length] at hn
    rw [FK.updN_at hu, if_neg hn]
theorem flat_put {P : Program} {β : Names} {h : Heap} {w : World} {b o m B X : Nat} {f r : FK} {v : AV} {u : Value} {L : Loc} (hr : HRel β h w) (hb : h[b]? = some ⟨true, .flat m f⟩) (hL : β b = some L) (hsp : L.span o 1 B X) (hu : f.put o v = some r) (hv : v.rel1 β u) (ho : oneAV v = true) :
    ∃ w', (storeCells ⟨B, X, none⟩ [u]).run P w = .ok () w' ∧ Wrote β h (h.set b ⟨true, .flat m r⟩) w w' := by
  obtain ⟨w', h1, h2⟩ := flat_write (P := P) (vs := [u]) hr hb hL hsp (by simpa using (one_of_rel1 hv ho).1)
  refine ⟨w', h1, h2 m r (fun j hj => ?_) (fun i p hp hn => ?_)⟩
  · have : j = 0 := by simpa using hj
    subst this
    rw [FK.put_at hu hv]; simp
  · rw [FK.put_at hu hv, if_neg (by intro e; exact hn (by simp [e]))]
theorem avs_write {P : Program} {β : Names} {h : Heap} {w : World} {b o B X : Nat} {vs : List AV} {v : AV} {u : Value} {L : Loc} (r : HRel β h w) (hb : h[b]? = some ⟨true, .avs vs⟩) (hL : β b = some L) (hsp : L.span o 1 B X) (hv : v.rel1 β u) (ho : oneAV v = true) :
    ∃ w', (storeCells ⟨B, X, none⟩ [u]).run P w = .ok () w' ∧ Wrote β h (h.set b ⟨true, .avs (vs.set o v)⟩) w w' := by
  have hcs := span_cells r hb hL (by simp) hsp
  have hinj := r.inj b _ L hb hL rfl (by simp)
  obtain ⟨L', hL', hr⟩ := r.blk b _ hb (by simp)
  rw [hL] at hL'; cases hL'
  obtain ⟨hc1, hc2⟩ := hr.cont
  obtain ⟨h1, _⟩ := one_of_rel1 hv ho
  obtain ⟨k1, k2, k3⟩ := write_ok (P := P) (x' := ⟨true, .avs (vs.set o v)⟩) (vs := [u]) r hb rfl hL (by simp) hsp (by simpa using h1) (by
    refine ⟨fun i hi => hc1 i (by simpa using hi), fun i B' X' hp => ?_⟩
    obtain ⟨z, y, e1, e2, e3⟩ := hc2 i B' X' hp
    rcases cells_after (vs := [u]) hinj hsp (by simpa using hcs) hp with ⟨q, f1, f2, f3, f4⟩ | ⟨f1, f2⟩
    · simp only [List.length_cons, List.length_nil] at f2
      have : i = o := by omega
      subst this
      simp only [Nat.sub_self, List.getElem?_cons_zero, Option.some.injEq] at f3
      subst f3
      exact ⟨v, u, List.getElem?_set_self (List.getElem?_eq_some_iff.1 e1).1, f4, hv⟩
    · refine ⟨z, y, ?_, by rw [f2]; exact e2, e3⟩
      rw [List.getElem?_set_ne (fun e => f1 (by subst e; simp))]
      exact e1)
  exact ⟨_, k1, k2, k3, fun a => Mine.put hb rfl (by simp) a, by simp⟩
def hdrPut (cp : Option (Nat → Nat)) (o : Nat) (cap : Cap) : Option (Nat → Nat) := match cp, cap with
  | some c, .exact c0 => some (upd c o c0)
  | _, _ => none
theorem hdrAV_weak {β : Names} {p : Nat} {of ln : Nat → Nat} {cp : Option (Nat → Nat)} {i : Nat} {u : Value} (h : (hdrAV p of ln cp i).rel1 β u) : (hdrAV p of ln none i).rel1 β u := by
  obtain ⟨L, a, c, B, X, hL, he, hle, hnn, ha, hcap⟩ := h
  exact ⟨L, a, c, B, X, hL, he, hle, hnn, ha, capRel_span hle hcap⟩
theorem hdrPut_same {β : Names} {p : Nat} {of ln : Nat → Nat} {cp : Option (Nat → Nat)} {nn : Bool} {o' len' : Nat} {cap : Cap} {o : Nat} {u : Value} (h : (AV.slice nn p o' len' cap 1).rel1 β u) : (hdrAV p (upd of o o') (upd ln o len') (hdrPut cp o cap) o).rel1 β u := by
  obtain ⟨L, a, c, B, X, hL, he, hle, hnn, ha, hcap⟩ := h
  have e1 : upd of o o' o = o' := by simp [upd]
  have e2 : upd ln o len' o = len' := by simp [upd]
  refine ⟨L, a, c, B, X, hL, by rw [e2]; exact he, by rw [e2]; exact hle, by simp, ha, ?_⟩
  rw [e1, e2]
  unfold hdrPut
  split
  · simp only [hdrCap, upd, if_true]; exact hcap
  · exact capRel_span hle hcap
theorem hdrPut_other {β : Names} {p : Nat} {of ln : Nat → Nat} {cp : Option (Nat → Nat)} {o' len' : Nat} {cap : Cap} {o i : Nat} {u : Value} (hi : i ≠ o) (h : (hdrAV p of ln cp i).rel1 β u) : (hdrAV p (upd of o o') (upd ln o len') (hdrPut cp o cap) i).rel1 β u := by
  have hw : (hdrAV p (upd of o o') (upd ln o len') none i).rel1 β u := by
    have := hdrAV_weak h
    obtain ⟨L, a, c, B, X, hL, he, hle, hnn, ha, hcap⟩ := this
    refine ⟨L, a, c, B, X, hL, ?_, ?_, by simp, ha, ?_⟩
    · simp only [upd, if_neg hi]; exact he
    · simp only [upd, if_neg hi]; exact hle
    · simp only [upd, if_neg hi]; exact hcap
  unfold hdrPut
  split
  · obtain ⟨L, a, c, B, X, hL, he, hle, hnn, ha, hcap⟩ := h
    refine ⟨L, a, c, B, X, hL, ?_, ?_, by simp, ha, ?_⟩
    · simp only [upd, if_neg hi]; exact he
    · simp only [upd, if_neg hi]; exact hle
    · simp only [hdrCap, upd, if_neg hi] at hcap ⊢; exact hcap
  · exact hw
theorem hdr_write {P : Program} {β : Names} {h : Heap} {w : World} {b o B X p n q : Nat} {of ln : Nat → Nat} {cp : Option (Nat → Nat)} {nn : Bool} {o' len' : Nat} {cap : Cap} {u : Value} {L : Loc} (r : HRel β h w) (hb : h[b]? = some ⟨true, .hdr p n q of ln cp⟩) (hL : β b = some L) (hsp : L.span o 1 B X) (hv : (AV.slice nn p o' len' cap 1).rel1 β u) :
    ∃ w', (storeCells ⟨B, X, none⟩ [u]).run P w = .ok () w' ∧ Wrote β h (h.set b ⟨true, .hdr p n q (upd of o o') (upd ln o len') (hdrPut cp o cap)⟩) w w' := by
  have hcs := span_cells r hb hL (by simp) hsp
  have hinj := r.inj b _ L hb hL rfl (by simp)
  obtain ⟨L', hL', hr⟩ := r.blk b _ hb (by simp)
  rw [hL] at hL'; cases hL'
  obtain ⟨hc1, hc2⟩ := hr.cont
  obtain ⟨h1, _⟩ := one_of_rel1 hv rfl
  obtain ⟨k1, k2, k3⟩ := write_ok (P := P) (x' := ⟨true, .hdr p n q (upd of o o') (upd ln o len') (hdrPut cp o cap)⟩) (vs := [u]) r hb rfl hL (by simp) hsp (by simpa using h1) (by
    refine ⟨hc1, fun i B' X' hp => ?_⟩
    obtain ⟨y, e2, e3⟩ := hc2 i B' X' hp
    rcases cells_after (vs := [u]) hinj hsp (by simpa using hcs) hp with ⟨q, f1, f2, f3, f4⟩ | ⟨f1, f2⟩
    · simp only [List.length_cons, List.length_nil] at f2
      have : i = o := by omega
      subst this
      simp only [Nat.sub_self, List.getElem?_cons_zero, Option.some.injEq] at f3
      subst f3
      exact ⟨u, f4, hdrPut_same hv⟩
    · exact ⟨y, by rw [f2]; exact e2, hdrPut_other (fun e => f1 (by subst e; simp)) e3⟩)
  exact ⟨_, k1, k2, k3, fun a => Mine.put hb rfl (by simp) a, by simp⟩
end Go.Proofs.YtoeailachidcdaaGreatDoor.Hg
