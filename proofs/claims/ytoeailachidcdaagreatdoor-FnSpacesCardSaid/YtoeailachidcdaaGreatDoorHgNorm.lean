import Derived.Test.YtoeailachidcdaaGreatDoorHgDraw4
namespace Go.Proofs.YtoeailachidcdaaGreatDoor.Hg
set_option linter.unusedVariables false
set_option linter.unusedSimpArgs false
set_option linter.unusedSectionVars false
open Go Go.RowKit
variable [Gl : Glob]
inductive CV where
  | whole (keep : Bool) (f : FK) (esz : Nat)
  | wholeH (keep : Bool) (k : IntKind)
  | exact (f : FK) (esz : Nat)
  | unk (f : FK) (esz : Nat)
  | unkH (k : IntKind)
def convAV (h : Heap) (cv : CV) (v : AV) : Option (AV × Heap) :=
  match cv, v with
  | .whole _ f esz, .nils => some (.slice false h.length 0 0 .whole esz, pushFlat h f)
  | .whole keep _ _, .slice nn b o len .whole esz => some (.slice (nn && keep) b o len .whole esz, h)
  | .whole keep _ _, .slice nn b o len (.exact _) esz => (match h[b]? with
    | some ⟨true, .flat _ f⟩ => some (.slice (nn && keep) h.length 0 len .whole esz, kills [b] h ++ [⟨true, .flat 0 (f.offZ o)⟩])
    | _ => none)
  | .wholeH _ k, .nils => some (.slice false (h.length + 1) 0 0 .whole 1, pushHdr h k)
  | .wholeH keep _, .slice nn b o len .whole esz => some (.slice (nn && keep) b o len .whole esz, h)
  | .exact f esz, .nils => some (.slice false h.length 0 0 (.exact 0) esz, pushFlat h f)
  | .exact _ _, .slice _ b o len (.exact c) esz => some (.slice false b o len (.exact c) esz, h)
  | .unk f esz, .nils => some (.slice false h.length 0 0 .unk esz, pushFlat h f)
  | .unk _ _, .slice _ b o len _ esz => some (.slice false b o len .unk esz, h)
  | .unkH k, .nils => some (.slice false (h.length + 1) 0 0 .unk 1, pushHdr h k)
  | .unkH _, .slice _ b o len _ esz => some (.slice false b o len .unk esz, h)
  | _, _ => none
theorem slice_nn {γ : Names} {nn nn' : Bool} {b o len : Nat} {cap : Cap} {esz : Nat} {u : Value} (h : (AV.slice nn b o len cap esz).rel1 γ u) (hn : nn' = true → nn = true) : (AV.slice nn' b o len cap esz).rel1 γ u := by
  obtain ⟨L, a, c, B, X, h1, h2, h3, h4, h5⟩ := h
  exact ⟨L, a, c, B, X, h1, h2, h3, fun e => h4 (hn e), h5⟩
theorem slice_unk {γ : Names} {nn : Bool} {b o len : Nat} {cap : Cap} {esz : Nat} {u : Value} (h : (AV.slice nn b o len cap esz).rel1 γ u) : (AV.slice false b o len .unk esz).rel1 γ u := by
  obtain ⟨L, a, c, B, X, h1, h2, h3, h4, h5, h6⟩ := h
  exact ⟨L, a, c, B, X, h1, h2, h3, by simp, h5, capRel_span h3 h6⟩
theorem convAV_ok {β : Names} {h h' : Heap} {w : World} {cv : CV} {v v' : AV} {u : Value} (hr : HRel β h w) (hc : convAV h cv v = some (v', h')) (hv : v.rel1 β u) : ∃ γ, After β γ h h' w w ∧ v'.rel1 γ u := by
  have hself : ∀ f, extN β h.length (Loc.grow 0 0 0 0) h.length = some (Loc.grow 0 0 0 0) := fun _ : FK => by unfold extN; rw [if_pos rfl]
  unfold convAV at hc
  split at hc
  · rename_i f esz
    cases hc; cases hv
    exact ⟨_, pushFlat_ok hr f, slice_nil (hself f) (.inl rfl)⟩
  · cases hc
    exact ⟨β, After.refl hr, slice_nn hv (by simp; exact fun h _ => h)⟩
  · rename_i keep _ _ nn b o len c esz
    split at hc
    · rename_i m f hb
      cases hc
      obtain ⟨L, ao, c', B, X, hL, rfl, hle, hnn, ha, rfl, hsp⟩ := hv
      obtain ⟨L', hL', hrel⟩ := hr.blk b _ hb (by simp)
      rw [hL] at hL'; cases hL'
      have hm : len * esz ≤ c' * esz := Nat.mul_le_mul_right _ hle
      have hown : ∀ B' X', (Loc.grow B X (len * esz) (c' * esz)).own B' X' → L.own B' X' := by
        intro B' X' ho
        obtain ⟨rfl, h1, h2⟩ := (Loc.grow_own hm).1 ho
        have := hsp (X' - X) (by omega)
        rw [show X + (X' - X) = X' by omega] at this
        exact .inl ⟨_, this⟩
      have a1 := push_world (ds := [b]) (x := ⟨true, .flat 0 (f.offZ o)⟩) (L := Loc.grow B X (len * esz) (c' * esz)) (w' := w) hr (by
        intro d hd
        simp only [List.mem_singleton] at hd
        subst hd
        exact ⟨_, _, hb, rfl, by simp, hL⟩) ⟨fun _ B' X' ho => ?_, fun i B' X' hp => ?_⟩ Loc.grow_inj (fun B' X' ho => .inr ⟨b, by simp, L, hL, hown B' X' ho⟩) (Ext.refl _ _) (fun _ _ _ => rfl)
      · exact ⟨_, a1, Loc.grow B X (len * esz) (c' * esz), ao, c', B, X, by unfold extN; rw [if_pos rfl], rfl, hle, fun e => hnn (by simp at e; exact e.1), ha, rfl, rfl⟩
      · obtain ⟨c1, c2⟩ := hrel.cells (by simp) B' X' (hown B' X' ho)
        exact ⟨c1, fun _ => c2 rfl⟩
      · obtain ⟨h1, h2⟩ := Loc.grow_pl.1 hp
        cases h2
        rw [FK.at_offZ]
        exact hrel.cont (o + i) B (X + i) (hsp i (by omega))
    · cases hc
  · rename_i k
    cases hc; cases hv
    obtain ⟨γ, a1, h1⟩ := pushHdr_ok hr k
    exact ⟨γ, a1, slice_nil h1 (.inl rfl)⟩
  · cases hc
    exact ⟨β, After.refl hr, slice_nn hv (by simp; exact fun h _ => h)⟩
  · rename_i f esz
    cases hc; cases hv
    exact ⟨_, pushFlat_ok hr f, slice_nil (hself f) (.inr (.inl rfl))⟩
  · cases hc
    exact ⟨β, After.refl hr, slice_nn hv (by simp)⟩
  · rename_i f esz
    cases hc; cases hv
    exact ⟨_, pushFlat_ok hr f, slice_nil (hself f) (.inr (.inr rfl))⟩
  · cases hc
    exact ⟨β, After.refl hr, slice_unk hv⟩
  · rename_i k
    cases hc; cases hv
    obtain ⟨γ, a1, h1⟩ := pushHdr_ok hr k
    exact ⟨γ, a1, slice_nil h1 (.inr (.inr rfl))⟩
  · cases hc
    exact ⟨β, After.refl hr, slice_unk hv⟩
  · cases hc
inductive CT where
  | slot (i : Nat)
  | cell (b j : Nat)
def conv1 (c : CT × CV) (s : St) : St :=
  match c with
  | (.slot i, cv) => (match s.t[i]? with
    | some v => (match convAV s.h cv v with | some (v', h') => ⟨s.t.set i v', h'⟩ | none => s)
    | none => s)
  | (.cell b j, cv) => (match s.h[b]? with
    | some ⟨rw, .avs vs⟩ => (match vs[j]? with
      | some v => (match convAV s.h cv v with
        | some (v', h') => (match h'[b]? with
          | some ⟨rw', .avs vs'⟩ => if rw' = rw then ⟨s.t, h'.set b ⟨rw, .avs (vs.set j v')⟩⟩ else s
          | _ => s)
        | none => s)
      | none => s)
    | _ => s)
def convs : List (CT × CV) → St → St
  | [], s => s
  | c :: r, s => convs r (conv1 c s)
theorem rel_set {β γ : Names} {s : St} {a : Act} {w : World} (r : Rel β s a w) (hle : β.le γ) {i : Nat} {v' : AV} (hv : ∀ v, s.t[i]? = some v → v'.rel γ (a.tmps.getD i undef)) {h' : Heap} (hh : HRel γ h' w) : Rel γ ⟨s.t.set i v', h'⟩ a w where
  len := by simp [r.len]
  val := by
    intro j u hu
    by_cases hij : j = i
    · subst hij
      have hlt : j < s.t.length := by
        have := (List.getElem?_eq_some_iff.1 hu).1
        simpa using this
      rw [List.getElem?_set_self hlt] at hu
      obtain rfl : v' = u := by simpa using hu
      exact hv _ (List.getElem?_eq_getElem hlt)
    · rw [List.getElem?_set_ne (fun e => hij e.symm)] at hu
      exact AV.rel_le hle (r.val j u hu)
  defers := r.defers
  heap := hh
theorem convAV_one {h h' : Heap} {cv : CV} {v v' : AV} (hc : convAV h cv v = some (v', h')) : oneAV v = true ∧ oneAV v' = true := by
  unfold convAV at hc
  split at hc <;> first
    | (cases hc; exact ⟨rfl, rfl⟩)
    | (split at hc
       · cases hc; exact ⟨rfl, rfl⟩
       · cases hc)
    | cases hc
theorem rel1_one {β : Names} {v : AV} {u : Value} (h : v.rel β u) (ho : oneAV v = true) : v.rel1 β u := by
  cases v <;> first | exact h | cases ho
theorem conv1_ok {β : Names} {s : St} {a : Act} {w : World} (r : Rel β s a w) (c : CT × CV) : ∃ γ, Rel γ (conv1 c s) a w ∧ After β γ s.h (conv1 c s).h w w := by
  have same : ∃ γ, Rel γ s a w ∧ After β γ s.h s.h w w := ⟨β, r, After.refl r.heap⟩
  unfold conv1
  split
  · rename_i i cv
    split
    · rename_i v hv
      split
      · rename_i v' h' hc
        obtain ⟨h1, h2⟩ := convAV_one hc
        obtain ⟨γ, a1, hv'⟩ := convAV_ok r.heap hc (rel1_one (r.val i v hv) h1)
        exact ⟨γ, rel_set r a1.le (fun _ _ => rel_of_rel1 hv') a1.rel, a1⟩
      · exact same
    · exact same
  · rename_i b j cv
    split
    · rename_i rw vs hb
      split
      · rename_i v hv
        split
        · rename_i v' h' hc
          split
          · rename_i rw' vs' hb'
            split
            · rename_i hrw
              subst hrw
              obtain ⟨L, hL, hrel⟩ := r.heap.blk b _ hb (by simp)
              obtain ⟨ys, q1, q2⟩ := avs_vals hrel
              obtain ⟨y, q3, q4⟩ := all2_get q1 hv
              obtain ⟨γ, a1, hv'⟩ := convAV_ok r.heap hc q4
              have hblt : b < s.h.length := (List.getElem?_eq_some_iff.1 hb).1
              have hLb := a1.le _ _ hL
              have hx : Blk.rel γ L ⟨rw', .avs (vs.set j v')⟩ w := by
                refine ⟨fun _ => hrel.cells (by simp), fun i hi => hrel.cont.1 i (by simpa using hi), fun i B X hp => ?_⟩
                obtain ⟨y2, g1, g2⟩ := q2 i B X hp
                by_cases hij : i = j
                · subst hij
                  rw [q3] at g1; cases g1
                  exact ⟨v', y, List.getElem?_set_self (List.getElem?_eq_some_iff.1 hv).1, g2, hv'⟩
                · obtain ⟨v2, u2, e1, e2, e3⟩ := hrel.cont.2 i B X hp
                  exact ⟨v2, u2, by rw [List.getElem?_set_ne (fun e => hij e.symm)]; exact e1, e2, AV.rel1_le a1.le e3⟩
              have a2 := HRel.redo (x' := ⟨rw', .avs (vs.set j v')⟩) a1.rel hb' hLb (by simp) (fun e => e) hx
              exact ⟨γ, ⟨r.len, fun i u hu => AV.rel_le a1.le (r.val i u hu), r.defers, a2.rel⟩, a1.trans a2⟩
            · exact same
          · exact same
        · exact same
      · exact same
    · exact same
theorem convs_ok {a : Act} {w : World} : ∀ {cs : List (CT × CV)} {β : Names} {s : St}, Rel β s a w → ∃ γ, Rel γ (convs cs s) a w ∧ After β γ s.h (convs cs s).h w w
  | [], β, s, r => ⟨β, r, After.refl r.heap⟩
  | c :: cs, β, s, r => by
    obtain ⟨γ, r1, a1⟩ := conv1_ok r c
    obtain ⟨δ, r2, a2⟩ := convs_ok (cs := cs) r1
    exact ⟨δ, r2, a1.trans a2⟩
end Go.Proofs.YtoeailachidcdaaGreatDoor.Hg
