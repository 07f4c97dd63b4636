import Derived.Test.YtoeailachidcdaaGreatDoorHgBack
namespace Go.Proofs.YtoeailachidcdaaGreatDoor.Hg
set_option linter.unusedVariables false
set_option linter.unusedSimpArgs false
set_option linter.unusedSectionVars false
open Go Go.RowKit
variable [Gl : Glob]
structure FnOk (P : Program) (f : FuncId) (args : List AV) (sh : Heap) (v : AV) (sh' : Heap) : Prop where
  len : sh.length ≤ sh'.length
  ro : ∀ (i : Nat) (x : Blk), sh[i]? = some x → x.rw = false → sh'[i]? = some x
  rw : ∀ (i : Nat) (x : Blk), sh[i]? = some x → x.rw = true → ∃ x', sh'[i]? = some x' ∧ x'.rw = true
  run : ∀ (β : Names) (w : World) (ys : List Value), HRel β sh w → all2 (AV.rel β) args ys → Calls P f ys.toArray w fun e w' => ∃ γ y, e = .returned y ∧ (∀ b, b < sh.length → γ b = β b) ∧ v.rel γ y ∧ HRel γ sh' w' ∧ Ext (Mine β sh) w w' ∧
    (∀ (b : Nat) (x : Blk) (L : Loc) (B X : Nat), sh.length ≤ b → sh'[b]? = some x → x.c ≠ .dead → γ b = some L → L.own B X → w.heap.size ≤ B ∨ Mine β sh ⟨B, X, none⟩)
def SpecOK (E : Env) : Prop := ∀ (f : FuncId) (ρ : Type) (args : List AV) (sh : Heap) (K : AV → Heap → Option ρ) (r : ρ), E.fn f ρ args sh K = some r → ∃ v sh', K v sh' = some r ∧ FnOk E.P f args sh v sh'
def xcall {ρ : Type} (E : Env) (f : FuncId) (args : List AV) (h : Heap) (k : AV → Heap → Option ρ) : Option ρ :=
  match shHeap (E.wr f) h 40 0 (shAVs (E.wr f) args []).2 [] with
  | some (sh, vs) => if apartOk vs sh = true then
      E.fn f ρ (shAVs (E.wr f) args []).1 sh fun v sh' =>
        (match bkAV vs h.length v, wback vs h.length vs sh (sh'.take vs.length) h, bkBlks vs h.length (sh'.drop vs.length) with
        | some v', some h', some nb => k v' (h' ++ nb)
        | _, _, _ => none)
    else none
  | none => none
theorem shAV_rel {β : Names} {fl : List Bool} {x : AV} {y : Value} {vs : List View} (hv : ViewsOk β vs) (h : x.rel β y) :
    vs <+: (shAV fl vs x).2 ∧ ViewsOk β (shAV fl vs x).2 ∧ ∀ vf, (shAV fl vs x).2 <+: vf → (shAV fl vs x).1.rel (small β vf) y := by
  cases x
  case tup xs => exact ⟨List.prefix_refl _, hv, fun _ _ => trivial⟩
  case mixv xs => exact ⟨List.prefix_refl _, hv, fun _ _ => trivial⟩
  all_goals
    simp only [AV.rel] at h
    obtain ⟨h1, h2, h3⟩ := shAV_ok (fl := fl) hv h
    exact ⟨h1, h2, fun vf hvf => rel_of_rel1 (h3 vf hvf)⟩
theorem shArgs_ok {β : Names} {fl : List Bool} : ∀ {xs : List AV} {ys : List Value} {vs : List View}, ViewsOk β vs → all2 (AV.rel β) xs ys →
    vs <+: (shAVs fl xs vs).2 ∧ ViewsOk β (shAVs fl xs vs).2 ∧ ∀ vf, (shAVs fl xs vs).2 <+: vf → all2 (AV.rel (small β vf)) (shAVs fl xs vs).1 ys
  | [], [], vs, hv, _ => ⟨List.prefix_refl _, hv, fun _ _ => trivial⟩
  | x :: xs, y :: ys, vs, hv, ⟨h1, h2⟩ => by
    simp only [shAVs]
    obtain ⟨p1, p2, p3⟩ := shAV_rel (fl := fl) hv h1
    obtain ⟨q1, q2, q3⟩ := shArgs_ok (fl := fl) p2 h2
    exact ⟨p1.trans q1, q2, fun vf hvf => ⟨p3 vf (q1.trans hvf), q3 vf hvf⟩⟩
  | [], _ :: _, _, _, h => h.elim
  | _ :: _, [], _, _, h => h.elim
structure After (β γ : Names) (h h' : Heap) (w w' : World) : Prop where
  len : h.length ≤ h'.length
  le : β.le γ
  old : ∀ b, b < h.length → γ b = β b
  rel : HRel γ h' w'
  ext : Ext (Mine β h) w w'
  mine : ∀ a, Mine γ h' a → Mine β h a ∨ w.heap.size ≤ a.block
theorem take_get {α : Type} {l : List α} {n i : Nat} (h : i < n) : (l.take n)[i]? = l[i]? := List.getElem?_take_of_lt h
theorem Blk.rel_dead {β : Names} {L : Loc} {rw : Bool} {w : World} : Blk.rel β L ⟨rw, .dead⟩ w := ⟨fun h => absurd rfl h, trivial⟩
theorem call_after {E : Env} {f : FuncId} {sargs : List AV} {v v' : AV} {β : Names} {h h' nb : Heap} {w : World} {vs : List View} {sh sh' : Heap} (hr : HRel β h w) (hl : sh.length = vs.length) (hs : ∀ j x, sh[j]? = some x → SmallBlk β h w vs j x) (hv : ViewsOk β vs)
    (ha : apartOk vs sh = true) (hok : FnOk E.P f sargs sh v sh') (hb : bkAV vs h.length v = some v') (hw : wback vs h.length vs sh (sh'.take vs.length) h = some h') (hn : bkBlks vs h.length (sh'.drop vs.length) = some nb)
    {γ : Names} {y : Value} {w' : World} (h1 : ∀ b, b < sh.length → γ b = small β vs b) (h2 : v.rel γ y) (h3 : HRel γ sh' w') (h4 : Ext (Mine (small β vs) sh) w w')
    (h5 : ∀ (b : Nat) (x : Blk) (L : Loc) (B X : Nat), sh.length ≤ b → sh'[b]? = some x → x.c ≠ .dead → γ b = some L → L.own B X → w.heap.size ≤ B ∨ Mine (small β vs) sh ⟨B, X, none⟩) :
    After β (bigN β γ h.length vs.length) h (h' ++ nb) w w' ∧ v'.rel (bigN β γ h.length vs.length) y := by
  have hγ : ∀ i, i < vs.length → γ i = small β vs i := fun i hi => h1 i (by omega)
  have hdist : ∀ (i j : Nat) (v u : View) (x : Blk), vs[i]? = some v → vs[j]? = some u → sh[i]? = some x → x.rw = true → i ≠ j → v.b ≠ u.b :=
    fun i j v u x a b c d e => apartOk_at ha a b c d e
  obtain ⟨w1, w2, w3⟩ := wback_ok hw hl hdist
  obtain ⟨n1, n2⟩ := bkBlks_at hn
  have hold : ∀ b, b < h.length → bigN β γ h.length vs.length b = β b := fun b hb => by unfold bigN; rw [if_pos hb]
  have hle : β.le (bigN β γ h.length vs.length) := by
    intro b L hbL
    rcases Nat.lt_or_ge b h.length with hlt | hge
    · rw [hold b hlt]; exact hbL
    · rw [hr.fresh b hge] at hbL; cases hbL
  have hnew : ∀ i, bigN β γ h.length vs.length (h.length + i) = γ (vs.length + i) := fun i => by
    unfold bigN; rw [if_neg (by omega)]; congr 1; omega
  have hmine : ∀ a, Mine (small β vs) sh a → Mine β h a := by
    intro a hm
    obtain ⟨i, x, u, z, L, _, _, _, e4, e5, e6, e7, e8⟩ := small_mine hs a hm
    exact ⟨u.b, z, L, e4, e5, e7, e6, View.loc_own e8⟩
  have hext : Ext (Mine β h) w w' := h4.mono hmine
  have hkept : ∀ (b : Nat) (x : Blk) (L : Loc), h[b]? = some x → x.c ≠ .dead → β b = some L → (∀ (j : Nat) (v : View) (x : Blk), vs[j]? = some v → sh[j]? = some x → x.rw = true → v.b ≠ b) → ∀ B X, L.own B X → ¬ Mine (small β vs) sh ⟨B, X, none⟩ := by
    intro b x L hx hd hL hno B X ho hm
    obtain ⟨j, z, u, y', M, e1, e2, e3, e4, e5, e6, e7, e8⟩ := small_mine hs _ hm
    exact hr.disj u.b b y' x M L B X (hno j u z e3 e1 e2) e4 hx e6 hL e5 e7 hd (View.loc_own e8) ho
  have hwin : ∀ (b : Nat) (z : Blk) (L : Loc), h'[b]? = some z → β b = some L → ∀ (j : Nat) (v : View) (x : Blk), vs[j]? = some v → sh[j]? = some x → x.rw = true → v.b = b →
      z.rw = true ∧ z.rel (bigN β γ h.length vs.length) L w' ∧ ∃ y0 x', h[b]? = some y0 ∧ y0.rw = true ∧ y0.c ≠ .dead ∧ sh'[j]? = some x' ∧ x'.rw = true ∧ (z.c ≠ .dead → x'.c ≠ .dead) := by
    rintro b z L hz hL j u x hu hx hxrw rfl
    obtain ⟨x', y0, z', e1, e2, e3, c, e4, rfl⟩ := w3 j u x hu hx hxrw
    rw [hz] at e3; cases e3
    have hj : j < vs.length := (List.getElem?_eq_some_iff.1 hu).1
    rw [take_get hj] at e1
    obtain ⟨u', y1, L1, f1, f2, f3, f4, f5, _, _⟩ := hs j x hx
    rw [hu] at f1; cases f1
    rw [e2] at f2; cases f2
    rw [hL] at f3; cases f3
    have hy0rw : y0.rw = true := f5 hxrw
    obtain ⟨x2, hx2, hx2rw⟩ := hok.rw j x hx hxrw
    rw [e1] at hx2; cases hx2
    have hgj := gamma_at hγ hu hL
    obtain ⟨L2, hL2, hold0⟩ := hr.blk u.b y0 e2 f4
    rw [hL] at hL2; cases hL2
    refine ⟨rfl, ?_⟩
    unfold layC at e4
    split at e4
    · rename_i hwh
      by_cases hd : x'.c = .dead
      · rw [hd] at e4
        cases e4
        exact ⟨Blk.rel_dead, y0, x', e2, hy0rw, f4, e1, hx2rw, fun h => absurd rfl h⟩
      · obtain ⟨L3, hL3, hnew0⟩ := h3.blk j x' e1 hd
        rw [hgj, View.loc_whole hwh] at hL3; cases hL3
        obtain ⟨q1, q2⟩ := bkCont_rel (rw' := true) hγ hv hr.fresh e4 (rw := x'.rw) hnew0 (fun _ => hx2rw)
        exact ⟨q1, y0, x', e2, hy0rw, f4, e1, hx2rw, fun _ => hd⟩
    · rename_i hwh
      have hwh : u.whole = false := by simpa using hwh
      split at e4
      · cases e4
        exact ⟨Blk.rel_dead, y0, x', e2, hy0rw, f4, e1, hx2rw, fun h => absurd rfl h⟩
      · rename_i m f _ f' hy0c hx'c
        split at e4
        · rename_i r hup
          cases e4
          have hd : x'.c ≠ .dead := by rw [hx'c]; simp
          obtain ⟨L3, hL3, hnew0⟩ := h3.blk j x' e1 hd
          rw [hgj] at hL3; cases hL3
          refine ⟨⟨fun _ B X ho => ?_, fun i B X hp => ?_⟩, y0, x', e2, hy0rw, f4, e1, hx2rw, fun _ => hd⟩
          · have hlt := hr.blk_lt e2 hL f4 ho
            obtain ⟨c1, c2⟩ := hold0.cells f4 B X ho
            refine ⟨?_, fun _ => ?_⟩
            ·
              by_cases hm : Mine (small β vs) sh ⟨B, X, none⟩
              · obtain ⟨j2, z2, u2, y2, M2, g1, g2, g3, g4, g5, g6, g7, g8⟩ := small_mine hs _ hm
                by_cases hjj : j2 = j
                · subst hjj
                  rw [hu] at g3; cases g3
                  rw [hL] at g6; cases g6
                  exact (hnew0.cells hd B X g8).1
                · exact absurd ho (fun ho => hr.disj u2.b u.b y2 y0 M2 L B X (apartOk_at ha g3 hu g1 g2 hjj) g4 e2 g6 hL g5 g7 f4 (View.loc_own g8) ho)
              · rw [h4.cell ⟨B, X, none⟩ hlt hm]; exact c1
            · rw [h4.froz ⟨B, X, none⟩ hlt]; exact c2 hy0rw
          · have hlt := hr.blk_lt e2 hL f4 (.inl ⟨i, hp⟩)
            have hc0 := hold0.cont
            rw [hy0c] at hc0
            have hn0 := hnew0.cont
            rw [hx'c] at hn0
            rw [FK.updN_at hup]
            split
            · rename_i hin
              refine hn0 (i - u.o) B X ((View.loc_pl hwh).2 ⟨by omega, ?_⟩)
              rw [show u.o + (i - u.o) = i by omega]; exact hp
            · rename_i hin
              rw [h4.cell ⟨B, X, none⟩ hlt ?_]
              · exact hc0 i B X hp
              · intro hm
                obtain ⟨j2, z2, u2, y2, M2, g1, g2, g3, g4, g5, g6, g7, g8⟩ := small_mine hs _ hm
                by_cases hjj : j2 = j
                · subst hjj
                  rw [hu] at g3; cases g3
                  rw [hL] at g6; cases g6
                  have hinj := hr.inj u.b y0 L e2 hL hy0rw f4
                  rcases g8 with ⟨i', hi'⟩ | hsp
                  · obtain ⟨q1, q2⟩ := (View.loc_pl hwh).1 hi'
                    have := hinj.1 _ _ _ hp q2
                    omega
                  · unfold View.loc at hsp
                    rw [if_neg (by simp [hwh])] at hsp
                    exact hsp
                · exact hr.disj u2.b u.b y2 y0 M2 L B X (apartOk_at ha g3 hu g1 g2 hjj) g4 e2 g6 hL g5 g7 f4 (View.loc_own g8) (.inl ⟨i, hp⟩)
        · cases e4
      · cases e4
  have hcase : ∀ b : Nat, (∃ (j : Nat) (v : View) (x : Blk), vs[j]? = some v ∧ sh[j]? = some x ∧ x.rw = true ∧ v.b = b) ∨ (∀ (j : Nat) (v : View) (x : Blk), vs[j]? = some v → sh[j]? = some x → x.rw = true → v.b ≠ b) := by
    intro b
    by_cases hc : ∃ (j : Nat) (v : View) (x : Blk), vs[j]? = some v ∧ sh[j]? = some x ∧ x.rw = true ∧ v.b = b
    · exact .inl hc
    · exact .inr fun j v x a b' c d => hc ⟨j, v, x, a, b', c, d⟩
  have hpart : ∀ (b : Nat) (z : Blk), h'[b]? = some z → ∃ y0, h[b]? = some y0 ∧ z.rw = y0.rw ∧ (z.c ≠ .dead → y0.c ≠ .dead) := by
    intro b z hz
    rcases hcase b with hc | hc
    · obtain ⟨j, u, x, hu, hx, hxrw, rfl⟩ := hc
      obtain ⟨L, hL⟩ := hv u (List.mem_of_getElem? hu)
      obtain ⟨q1, _, y0, _, q3, q4, q5, _⟩ := hwin u.b z L hz hL j u x hu hx hxrw rfl
      exact ⟨y0, q3, by rw [q1, q4], fun _ => q5⟩
    · rw [w2 b hc] at hz
      exact ⟨z, hz, rfl, id⟩
  have hnblk : ∀ (i : Nat) (z : Blk), nb[i]? = some z → ∃ x, sh'[vs.length + i]? = some x ∧ x.rw = z.rw ∧ (z.c ≠ .dead → x.c ≠ .dead) ∧ (∀ L, γ (vs.length + i) = some L → x.c ≠ .dead → x.rel γ L w' → z.rel (bigN β γ h.length vs.length) L w') := by
    intro i z hz
    obtain ⟨x, e1, e2, e3⟩ := n2 i z hz
    rw [List.getElem?_drop] at e1
    refine ⟨x, e1, e2, fun hd hx => ?_, fun L hL hxd hxr => ?_⟩
    · rw [hx] at e3
      simp only [bkCont, Option.some.injEq] at e3
      exact hd e3.symm
    · exact (bkCont_rel (rw' := z.rw) hγ hv hr.fresh e3 (rw := x.rw) hxr (fun e => by rw [e2]; exact e)).1
  have hnm : ∀ q, h.length ≤ q → bigN β γ h.length vs.length q = γ (vs.length + (q - h.length)) := fun q hq => by
    have := hnew (q - h.length); rw [show h.length + (q - h.length) = q by omega] at this; exact this
  have hon : ∀ (b : Nat) (x : Blk) (L : Loc) (i : Nat) (z0 : Blk) (M : Loc) (B X : Nat), h'[b]? = some x → x.c ≠ .dead → β b = some L → L.own B X → sh'[vs.length + i]? = some z0 → z0.c ≠ .dead → γ (vs.length + i) = some M → M.own B X → False := by
    intro b x L i z0 M B X hx hxd hL ho hz0 hz0d hM ho'
    obtain ⟨x0, hx0, _, hx0d⟩ := hpart b x hx
    rcases h5 _ z0 M B X (by omega) hz0 hz0d hM ho' with hlt | hm
    · have := hr.blk_lt hx0 hL (hx0d hxd) ho
      omega
    · obtain ⟨j2, z2, u2, y2, M2, g1, g2, g3, g4, g5, g6, g7, g8⟩ := small_mine hs _ hm
      by_cases hbb : u2.b = b
      · subst hbb
        rw [hL] at g6; cases g6
        obtain ⟨_, _, y0, x', _, _, _, q6, q7, q8⟩ := hwin u2.b x L hx hL j2 u2 z2 g3 g1 g2 rfl
        have hj2 : j2 < vs.length := (List.getElem?_eq_some_iff.1 g3).1
        exact h3.disj j2 (vs.length + i) x' z0 _ M B X (by omega) q6 hz0 (gamma_at hγ g3 hL) hM q7 (q8 hxd) hz0d g8 ho'
      · exact hr.disj u2.b b y2 x0 M2 L B X hbb g4 hx0 g6 hL g5 g7 (hx0d hxd) (View.loc_own g8) ho
  refine ⟨⟨by rw [List.length_append, w1]; omega, hle, hold, ⟨?_, ?_, ?_, ?_, h3.glob, ?_⟩, hext, ?_⟩, bkAV_ok hγ hv hr.fresh hb h2⟩
  · intro b z hz hzd
    rcases Nat.lt_or_ge b h'.length with hlt | hge
    · rw [List.getElem?_append_left hlt] at hz
      obtain ⟨y0, hy0, hyrw, hyd⟩ := hpart b z hz
      obtain ⟨L, hL, hrel⟩ := hr.blk b y0 hy0 (hyd hzd)
      refine ⟨L, by rw [hold b (by omega)]; exact hL, ?_⟩
      rcases hcase b with hc | hc
      · obtain ⟨j, u, x, hu, hx, hxrw, hbb⟩ := hc
        exact (hwin b z L hz hL j u x hu hx hxrw hbb).2.1
      · rw [w2 b hc] at hz
        rw [hy0] at hz
        obtain rfl : y0 = z := by simpa using hz
        refine Blk.rel_world (Blk.rel_names hle hrel) (fun _ B X ho => ?_) (fun _ B X ho => ?_)
        · exact h4.cell _ (hr.blk_lt hy0 hL hzd ho) (hkept b y0 L hy0 hzd hL hc B X ho)
        · exact h4.froz _ (hr.blk_lt hy0 hL hzd ho)
    · rw [List.getElem?_append_right hge] at hz
      obtain ⟨x, e1, e2, e3, e4⟩ := hnblk _ z hz
      obtain ⟨L, hL, hrel⟩ := h3.blk _ x e1 (e3 hzd)
      refine ⟨L, ?_, e4 L hL (e3 hzd) hrel⟩
      rw [hnm b (by omega), ← w1]; exact hL
  · intro b c x z L M B X hne hx hz hL hM hrw hxd hzd ho ho'
    rcases Nat.lt_or_ge b h'.length with h1b | h1b <;> rcases Nat.lt_or_ge c h'.length with h1c | h1c
    · rw [List.getElem?_append_left h1b] at hx
      rw [List.getElem?_append_left h1c] at hz
      rw [hold b (by omega)] at hL
      rw [hold c (by omega)] at hM
      obtain ⟨x0, hx0, hx0rw, hx0d⟩ := hpart b x hx
      obtain ⟨z0, hz0, _, hz0d⟩ := hpart c z hz
      exact hr.disj b c x0 z0 L M B X hne hx0 hz0 hL hM (by rw [← hx0rw]; exact hrw) (hx0d hxd) (hz0d hzd) ho ho'
    · rw [List.getElem?_append_left h1b] at hx
      rw [List.getElem?_append_right h1c] at hz
      rw [hold b (by omega)] at hL
      obtain ⟨z0, hz0, _, hz0d, _⟩ := hnblk _ z hz
      rw [hnm c (by omega), ← w1] at hM
      exact hon b x L _ z0 M B X hx hxd hL ho hz0 (hz0d hzd) hM ho'
    · rw [List.getElem?_append_right h1b] at hx
      rw [List.getElem?_append_left h1c] at hz
      rw [hold c (by omega)] at hM
      obtain ⟨x0, hx0, _, hx0d, _⟩ := hnblk _ x hx
      rw [hnm b (by omega), ← w1] at hL
      exact hon c z M _ x0 L B X hz hzd hM ho' hx0 (hx0d hxd) hL ho
    · rw [List.getElem?_append_right h1b] at hx
      rw [List.getElem?_append_right h1c] at hz
      obtain ⟨x0, hx0, hx0rw, hx0d, _⟩ := hnblk _ x hx
      obtain ⟨z0, hz0, _, hz0d, _⟩ := hnblk _ z hz
      rw [hnm b (by omega), ← w1] at hL
      rw [hnm c (by omega), ← w1] at hM
      exact h3.disj (vs.length + (b - h'.length)) (vs.length + (c - h'.length)) x0 z0 L M B X (by omega) hx0 hz0 hL hM (by rw [hx0rw]; exact hrw) (hx0d hxd) (hz0d hzd) ho ho'
  · intro b x L hx hL hrw hxd
    rcases Nat.lt_or_ge b h'.length with h1b | h1b
    · rw [List.getElem?_append_left h1b] at hx
      rw [hold b (by omega)] at hL
      obtain ⟨x0, hx0, hx0rw, hx0d⟩ := hpart b x hx
      exact hr.inj b x0 L hx0 hL (by rw [← hx0rw]; exact hrw) (hx0d hxd)
    · rw [List.getElem?_append_right h1b] at hx
      obtain ⟨x0, hx0, hx0rw, hx0d, _⟩ := hnblk _ x hx
      rw [hnm b (by omega), ← w1] at hL
      exact h3.inj _ x0 L hx0 hL (by rw [hx0rw]; exact hrw) (hx0d hxd)
  · intro b hb'
    rw [List.length_append, w1, n1, List.length_drop] at hb'
    have hsl := hok.len
    rw [hnm b (by omega)]
    exact h3.fresh _ (by omega)
  · intro b x L B X hx hrw hxd hL ho
    rcases Nat.lt_or_ge b h'.length with h1b | h1b
    · rw [List.getElem?_append_left h1b] at hx
      rw [hold b (by omega)] at hL
      obtain ⟨x0, hx0, hx0rw, hx0d⟩ := hpart b x hx
      exact hr.gap b x0 L B X hx0 (by rw [← hx0rw]; exact hrw) (hx0d hxd) hL ho
    · rw [List.getElem?_append_right h1b] at hx
      obtain ⟨x0, hx0, hx0rw, hx0d, _⟩ := hnblk _ x hx
      rw [hnm b (by omega), ← w1] at hL
      exact h3.gap _ x0 L B X hx0 (by rw [hx0rw]; exact hrw) (hx0d hxd) hL ho
  · rintro a ⟨b, x, L, hx, hrw, hxd, hL, ho⟩
    rcases Nat.lt_or_ge b h'.length with hlt | hge
    · rw [List.getElem?_append_left hlt] at hx
      rw [hold b (by omega)] at hL
      obtain ⟨x0, hx0, hx0rw, hx0d⟩ := hpart b x hx
      exact .inl ⟨b, x0, L, hx0, by rw [← hx0rw]; exact hrw, hx0d hxd, hL, ho⟩
    · rw [List.getElem?_append_right hge] at hx
      obtain ⟨x0, hx0, _, hx0d, _⟩ := hnblk _ x hx
      rw [hnm b (by omega), ← w1] at hL
      rcases h5 _ x0 L a.block a.off (by omega) hx0 (hx0d hxd) hL ho with h | h
      · exact .inr h
      · obtain ⟨i, x, u, z, L, _, _, _, e4, e5, e6, e7, e8⟩ := small_mine hs _ h
        exact .inl ⟨u.b, z, L, e4, e5, e7, e6, View.loc_own e8⟩
theorem shHeap_ro {fl : List Bool} {h : Heap} (hf : fl.all (! ·) = true) : ∀ {fuel i : Nat} {vs vf : List View} {acc sh : List Blk}, shHeap fl h fuel i vs acc = some (sh, vf) → (∀ x ∈ acc, x.rw = false) → ∀ x ∈ sh, x.rw = false
  | 0, _, _, _, _, _, hs, _ => by simp [shHeap] at hs
  | fuel + 1, i, vs, vf, acc, sh, hs, ha => by
    have hfi : ∀ j, fl.getD j false = false := by
      intro j
      rw [List.getD_eq_getElem?_getD]
      cases hj : fl[j]? with
      | none => rfl
      | some b =>
        have := List.all_eq_true.1 hf b (List.mem_of_getElem? hj)
        simpa using this
    have step : ∀ (c : Cont) (rw : Bool), ∀ x ∈ acc ++ [⟨rw && fl.getD i false, c⟩], x.rw = false := by
      intro c rw x hx
      rcases List.mem_append.1 hx with hx | hx
      · exact ha x hx
      · simp only [List.mem_singleton] at hx; subst hx; simp only [hfi, Bool.and_false]
    simp only [shHeap] at hs
    split at hs
    · obtain ⟨rfl, rfl⟩ : acc = sh ∧ vs = vf := by simpa using hs
      exact ha
    · split at hs
      · exact shHeap_ro hf hs (step _ _)
      · split at hs
        · exact shHeap_ro hf hs (step _ _)
        · exact shHeap_ro hf hs (step _ _)
      · split at hs
        · exact shHeap_ro hf hs (step _ _)
        · cases hs
      · cases hs
theorem xcall_ok {ρ : Type} {E : Env} (hS : SpecOK E) {f : FuncId} {args : List AV} {h : Heap} {k : AV → Heap → Option ρ} {r : ρ} (hx : xcall E f args h k = some r) :
    ∃ v h', k v h' = some r ∧ ((E.wr f).all (! ·) = true → ∃ nb, h' = h ++ nb) ∧ ∀ (β : Names) (w : World) (ys : List Value), HRel β h w → all2 (AV.rel β) args ys →
      Calls E.P f ys.toArray w fun e w' => ∃ γ y, e = .returned y ∧ v.rel γ y ∧ After β γ h h' w w' := by
  unfold xcall at hx
  split at hx
  · rename_i sh vs hsh
    split at hx
    · rename_i hap
      obtain ⟨v, sh', hk, hok⟩ := hS _ _ _ _ _ _ hx
      split at hk
      · rename_i v' h' nb hb hw hn
        refine ⟨v', h' ++ nb, hk, fun hq => ⟨nb, ?_⟩, fun β w ys hr hy => ?_⟩
        · have : ∀ x ∈ sh, x.rw = false := shHeap_ro hq hsh (by simp)
          rw [wback_quiet hw this]
        · obtain ⟨p1, p2, p3⟩ := shArgs_ok (β := β) (fl := E.wr f) (vs := []) (by intro v hv; simp at hv) hy
          obtain ⟨q1, q2, q3, q4⟩ := shHeap_ok hr hsh p2 rfl (by simp)
          have hsm := small_rel hr q3 q4 hap
          refine (hok.run _ w ys hsm (p3 vs q1)).mono ?_
          rintro e w' ⟨γ, y, rfl, e1, e2, e3, e4, e5⟩
          obtain ⟨a1, a2⟩ := call_after hr q3 q4 q2 hap hok hb hw hn e1 e2 e3 e4 e5
          exact ⟨_, y, rfl, a2, a1⟩
      · cases hk
    · cases hx
  · cases hx
end Go.Proofs.YtoeailachidcdaaGreatDoor.Hg
