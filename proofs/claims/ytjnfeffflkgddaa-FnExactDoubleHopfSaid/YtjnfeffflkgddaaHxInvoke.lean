/- A call of a function whose contract is known. -/
import Derived.Test.YtjnfeffflkgddaaHxBack
namespace Go.Proofs.Ytjnfeffflkgddaa.Hx
set_option linter.unusedVariables false
set_option linter.unusedSimpArgs false
open Go Go.RowKit

/-- What a function does with arguments 'args' and a memory 'sh': it hands back v, and the memory is sh'. -/
structure FnOk (P : Program) (f : FuncId) (args : List AV) (sh : Heap) (v : AV) (sh' : Heap) : Prop where
  len : sh.length ≤ sh'.length
  ro : ∀ (i : Nat) (x : Blk), sh[i]? = some x → x.rw = false → sh'[i]? = some x
  rw : ∀ (i : Nat) (x : Blk), sh[i]? = some x → x.rw = true → ∃ x', sh'[i]? = some x' ∧ x'.rw = true ∧ x'.c ≠ .dead
  run : ∀ (β : Names) (w : World) (ys : List Value), HRel β sh w → all2 (AV.rel β) args ys → Calls P f ys.toArray w fun e w' => ∃ γ y, e = .returned y ∧ (∀ b, b < sh.length → γ b = β b) ∧ v.rel γ y ∧ HRel γ sh' w' ∧ Ext (Mine β sh) w w' ∧
    (∀ (b : Nat) (x : Blk) (L : Loc), sh.length ≤ b → sh'[b]? = some x → γ b = some L → 0 < x.ext L → w.heap.size ≤ L.blk)

def SpecOK (E : Env) : Prop := ∀ (f : FuncId) (ρ : Type) (args : List AV) (sh : Heap) (K : AV → Heap → Option ρ) (r : ρ), E.fn f ρ args sh K = some r → ∃ v sh', K v sh' = some r ∧ FnOk E.P f args sh v sh'

def xcall {ρ : Type} (E : Env) (f : FuncId) (args : List AV) (h : Heap) (k : AV → Heap → Option ρ) : Option ρ :=
  match shHeap h 40 0 (shAVs (E.wr f) args []).2 [] with
  | some (sh, vs) => if apartOk vs sh = true then
      E.fn f ρ (shAVs (E.wr f) args []).1 sh fun v sh' =>
        (match bkAV vs h.length v, wback vs h.length vs sh (sh'.take vs.length) h, bkBlks vs h.length (sh'.drop vs.length) with
        | some v', some h', some nb => k v' (h' ++ nb)
        | _, _, _ => none)
    else none
  | none => none

theorem shAV_rel {β : Names} {rw : Bool} {x : AV} {y : Value} {vs : List View} (hv : ViewsOk β vs) (h : x.rel β y) :
    vs <+: (shAV rw vs x).2 ∧ ViewsOk β (shAV rw vs x).2 ∧ ∀ vf, (shAV rw vs x).2 <+: vf → (shAV rw vs x).1.rel (small β vf) y := by
  cases x
  case tup xs => exact ⟨List.prefix_refl _, hv, fun _ _ => trivial⟩
  all_goals
    simp only [AV.rel] at h
    obtain ⟨h1, h2, h3⟩ := shAV_ok (rw := rw) hv h
    exact ⟨h1, h2, fun vf hvf => rel_of_rel1 (h3 vf hvf)⟩

theorem shArgs_ok {β : Names} : ∀ {fs : List Bool} {xs : List AV} {ys : List Value} {vs : List View}, ViewsOk β vs → all2 (AV.rel β) xs ys →
    vs <+: (shAVs fs xs vs).2 ∧ ViewsOk β (shAVs fs xs vs).2 ∧ ∀ vf, (shAVs fs xs vs).2 <+: vf → all2 (AV.rel (small β vf)) (shAVs fs xs vs).1 ys
  | _, [], [], vs, hv, _ => ⟨List.prefix_refl _, hv, fun _ _ => trivial⟩
  | fs, x :: xs, y :: ys, vs, hv, ⟨h1, h2⟩ => by
    simp only [shAVs]
    obtain ⟨p1, p2, p3⟩ := shAV_rel (rw := fs.headD false) hv h1
    obtain ⟨q1, q2, q3⟩ := shArgs_ok (fs := fs.tail) p2 h2
    exact ⟨p1.trans q1, q2, fun vf hvf => ⟨p3 vf (q1.trans hvf), q3 vf hvf⟩⟩
  | _, [], _ :: _, _, _, h => h.elim
  | _, _ :: _, [], _, _, h => h.elim

/-- what stands behind a call, in the caller's words -/
structure After (β γ : Names) (h h' : Heap) (w w' : World) : Prop where
  len : h.length ≤ h'.length
  le : β.le γ
  old : ∀ b, b < h.length → γ b = β b
  rel : HRel γ h' w'
  ext : Ext (Mine β h) w w'
  mine : ∀ a, Mine γ h' a → Mine β h a ∨ w.heap.size ≤ a.block

theorem ext_full {x : Blk} {L : Loc} (h : x.c ≠ .dead) : x.ext L = L.cells := by
  unfold Blk.ext
  split
  · rename_i hc; exact absurd hc h
  · rfl

theorem ext_same {z y : Blk} {L : Loc} (h : z.c = .dead ↔ y.c = .dead) : z.ext L = y.ext L := by
  by_cases hz : z.c = .dead
  · have hy := h.1 hz
    unfold Blk.ext
    rw [hz, hy]
  · have hy : y.c ≠ .dead := fun e => hz (h.2 e)
    rw [ext_full hz, ext_full hy]

theorem take_get {α : Type} {l : List α} {n i : Nat} (h : i < n) : (l.take n)[i]? = l[i]? := List.getElem?_take_of_lt h

theorem call_after {E : Env} {f : FuncId} {sargs : List AV} {v v' : AV} {β : Names} {h h' nb : Heap} {w : World} {vs : List View} {sh sh' : Heap} (hr : HRel β h w) (hl : sh.length = vs.length) (hs : ∀ j x, sh[j]? = some x → SmallBlk β h w vs j x) (hv : ViewsOk β vs)
    (ha : apartOk vs sh = true) (hok : FnOk E.P f sargs sh v sh') (hb : bkAV vs h.length v = some v') (hw : wback vs h.length vs sh (sh'.take vs.length) h = some h') (hn : bkBlks vs h.length (sh'.drop vs.length) = some nb)
    {γ : Names} {y : Value} {w' : World} (h1 : ∀ b, b < sh.length → γ b = small β vs b) (h2 : v.rel γ y) (h3 : HRel γ sh' w') (h4 : Ext (Mine (small β vs) sh) w w')
    (h5 : ∀ (b : Nat) (x : Blk) (L : Loc), sh.length ≤ b → sh'[b]? = some x → γ b = some L → 0 < x.ext L → w.heap.size ≤ L.blk) :
    After β (bigN β γ h.length vs.length) h (h' ++ nb) w w' ∧ v'.rel (bigN β γ h.length vs.length) y := by
  have hγ : ∀ i, i < vs.length → γ i = small β vs i := fun i hi => h1 i (by omega)
  have hdist : ∀ (i j : Nat) (v u : View) (x : Blk), vs[i]? = some v → vs[j]? = some u → sh[i]? = some x → x.rw = true → i ≠ j → v.b ≠ u.b :=
    fun i j v u x a b c d e => apartOk_at ha a b c d e
  obtain ⟨w1, w2, w3⟩ := wback_ok hw hl hdist
  obtain ⟨n1, n2⟩ := bkBlks_at hn
  have hold : ∀ b, b < h.length → bigN β γ h.length vs.length b = β b := fun b hb => by unfold bigN; rw [if_pos hb]
  have hle : β.le (bigN β γ h.length vs.length) := by
    intro b L hbL
    rcases Nat.lt_or_ge b h.length with hlt | hge
    · rw [hold b hlt]; exact hbL
    · rw [hr.fresh b hge] at hbL; cases hbL
  have hnew : ∀ i, bigN β γ h.length vs.length (h.length + i) = γ (vs.length + i) := fun i => by
    unfold bigN; rw [if_neg (by omega)]; congr 1; omega
  have hmine : ∀ a, Mine (small β vs) sh a → Mine β h a := by
    intro a hm
    obtain ⟨i, x, u, z, L, _, _, _, e4, e5, e6, e7, e8, e9, e10, e11⟩ := small_mine hs hv a hm
    have : z.ext L = L.cells := ext_full e7
    exact ⟨u.b, z, L, a.off - L.base, e4, e5, e6, by omega, e8, by omega⟩
  have hext : Ext (Mine β h) w w' := h4.mono hmine
  -- an old block that no window writes
  have hkept : ∀ (b : Nat) (x : Blk) (L : Loc), h[b]? = some x → β b = some L → (∀ (j : Nat) (v : View) (x : Blk), vs[j]? = some v → sh[j]? = some x → x.rw = true → v.b ≠ b) → ∀ i, i < x.ext L → ¬ Mine (small β vs) sh (L.at i) := by
    intro b x L hx hL hno i hi hm
    obtain ⟨j, z, u, y', M, e1, e2, e3, e4, e5, e6, e7, e8, e9, e10, e11⟩ := small_mine hs hv _ hm
    have hne := hno j u z e3 e1 e2
    have hext' : y'.ext M = M.cells := ext_full e7
    simp only [Loc.at] at e8 e9 e10
    exact hr.disj u.b b y' x M L hne e4 hx e6 hL e5 (L.base + i - M.base) i (by omega) hi e8.symm (by omega)
  -- a window that was written
  have hwin : ∀ (b : Nat) (z : Blk) (L : Loc), h'[b]? = some z → β b = some L → (∃ (j : Nat) (v : View) (x : Blk), vs[j]? = some v ∧ sh[j]? = some x ∧ x.rw = true ∧ v.b = b) →
      z.c ≠ .dead ∧ z.rw = true ∧ z.rel (bigN β γ h.length vs.length) L w' ∧ ∃ y0, h[b]? = some y0 ∧ y0.rw = true ∧ y0.c ≠ .dead := by
    rintro b z L hz hL ⟨j, u, x, hu, hx, hxrw, rfl⟩
    obtain ⟨x', y0, z', e1, e2, e3, e4⟩ := w3 j u x hu hx hxrw
    rw [hz] at e3; cases e3
    have hj : j < vs.length := (List.getElem?_eq_some_iff.1 hu).1
    rw [take_get hj] at e1
    obtain ⟨u', y1, L1, f1, f2, f3, f4, f5, _, _⟩ := hs j x hx
    rw [hu] at f1; cases f1
    rw [e2] at f2; cases f2
    rw [hL] at f3; cases f3
    have hy0rw : y0.rw = true := by rw [hxrw] at f5; simp at f5; exact f5.1
    obtain ⟨_, hL1, hin, hwh⟩ := hv u (List.mem_of_getElem? hu)
    rw [hL] at hL1; cases hL1
    have hgj := gamma_at hγ hu hL
    obtain ⟨L2, hL2, hold0⟩ := hr.blk u.b y0 e2 f4
    rw [hL] at hL2; cases hL2
    rcases e4 with ⟨rw, k, m, g, n', g', rfl, hx', rfl⟩ | ⟨rw, us, us', us'', rfl, hx', hwhole, hbk, rfl⟩
    · obtain ⟨L3, hL3, hnew0⟩ := h3.blk j x' e1 (by rw [hx']; simp)
      rw [hgj] at hL3; cases hL3
      refine ⟨by simp, rfl, ?_, _, e2, hy0rw, by simp⟩
      simp only [Blk.rel] at hold0 ⊢
      unfold Blk.rel at hnew0
      simp only [hx'] at hnew0
      refine ⟨hold0.1, fun i hi => ?_⟩
      have hfro : w'.frozen? (L.at i) = false := by
        rw [h4.froz (L.at i) (hr.blk_lt e2 hL (i := i) (by simp only [Blk.ext]; omega))]
        exact (hold0.2 i hi).2 hy0rw
      refine ⟨?_, fun _ => hfro⟩
      by_cases hin2 : u.o ≤ i ∧ i < u.o + u.n
      · have hc := (hnew0.2 (i - u.o) (by rw [hnew0.1]; show i - u.o < u.n; omega)).1
        have e : (⟨L.blk, L.base + u.o, u.n⟩ : Loc).at (i - u.o) = L.at i := by simp [Loc.at]; omega
        rw [e] at hc
        rw [hc]
        split
        · rename_i hw'
          rw [(hwh hw').1]; simp
        · simp only [updN]; rw [if_pos hin2]
      · have hnotwhole : ¬ u.whole = true := by
          intro hw'
          have := hwh hw'
          omega
        rw [h4.cell (L.at i) (hr.blk_lt e2 hL (i := i) (by simp only [Blk.ext]; omega)) ?_, (hold0.2 i hi).1]
        · rw [if_neg hnotwhole]
          simp only [updN]; rw [if_neg hin2]
        · intro hm
          obtain ⟨j2, z2, u2, y2, M2, g1, g2, g3, g4, g5, g6, g7, g8, g9, g10, g11⟩ := small_mine hs hv _ hm
          by_cases hjj : j2 = j
          · subst hjj
            rw [hu] at g3; cases g3
            rw [hL] at g6; cases g6
            simp only [Loc.at] at g9 g10
            omega
          · have hne := apartOk_at ha g3 hu g1 g2 hjj
            have hext' : y2.ext M2 = M2.cells := ext_full g7
            simp only [Loc.at] at g8 g9 g10
            exact hr.disj u2.b u.b y2 _ M2 L hne g4 e2 g6 hL g5 (L.base + i - M2.base) i (by omega) (by simp only [Blk.ext]; omega) g8.symm (by omega)
    · obtain ⟨L3, hL3, hnew0⟩ := h3.blk j x' e1 (by rw [hx']; simp)
      rw [hgj] at hL3; cases hL3
      refine ⟨by simp, rfl, ?_, _, e2, hy0rw, by simp⟩
      obtain ⟨e5, e6⟩ := hwh hwhole
      have hLe : (⟨L.blk, L.base + u.o, u.n⟩ : Loc) = L := by rw [e5, e6]; rfl
      rw [hLe] at hnew0
      obtain ⟨x2, hx2, hx2rw, _⟩ := hok.rw j x hx hxrw
      rw [e1] at hx2; cases hx2
      have hx'e : x' = ⟨true, .avs us'⟩ := by
        obtain ⟨b1, c1⟩ := x'
        simp only at hx' hx2rw
        rw [hx', hx2rw]
      rw [hx'e] at hnew0
      exact bkAvs_rel hγ hv hr.fresh hbk hnew0 (fun h => h)
  have hcase : ∀ b : Nat, (∃ (j : Nat) (v : View) (x : Blk), vs[j]? = some v ∧ sh[j]? = some x ∧ x.rw = true ∧ v.b = b) ∨ (∀ (j : Nat) (v : View) (x : Blk), vs[j]? = some v → sh[j]? = some x → x.rw = true → v.b ≠ b) := by
    intro b
    by_cases hc : ∃ (j : Nat) (v : View) (x : Blk), vs[j]? = some v ∧ sh[j]? = some x ∧ x.rw = true ∧ v.b = b
    · exact .inl hc
    · exact .inr fun j v x a b' c d => hc ⟨j, v, x, a, b', c, d⟩
  -- what the old part of the memory holds
  have hpart : ∀ (b : Nat) (z : Blk), h'[b]? = some z → ∃ y0, h[b]? = some y0 ∧ z.rw = y0.rw ∧ (z.c = .dead ↔ y0.c = .dead) := by
    intro b z hz
    rcases hcase b with hc | hc
    · obtain ⟨j, u, x, hu, hx, hxrw, rfl⟩ := hc
      obtain ⟨L, hL, _⟩ := hv u (List.mem_of_getElem? hu)
      obtain ⟨q1, q2, _, y0, q3, q4, q5⟩ := hwin u.b z L hz hL ⟨j, u, x, hu, hx, hxrw, rfl⟩
      exact ⟨y0, q3, by rw [q2, q4], by simp [q1, q5]⟩
    · rw [w2 b hc] at hz
      exact ⟨z, hz, rfl, Iff.rfl⟩
  have hexteq : ∀ (z y0 : Blk) (L : Loc), (z.c = .dead ↔ y0.c = .dead) → z.ext L = y0.ext L := by
    intro z y0 L hzy
    exact ext_same hzy
  have hnblk : ∀ (i : Nat) (z : Blk), nb[i]? = some z → ∃ x, sh'[vs.length + i]? = some x ∧ x.rw = z.rw ∧ (z.c = .dead ↔ x.c = .dead) ∧ (∀ L, γ (vs.length + i) = some L → x.c ≠ .dead → x.rel γ L w' → z.rel (bigN β γ h.length vs.length) L w') := by
    intro i z hz
    obtain ⟨x, e1, e2, e3⟩ := n2 i z hz
    rw [List.getElem?_drop] at e1
    refine ⟨x, e1, e2, ?_, ?_⟩
    · rcases e3 with ⟨us, us', q1, q2, q3⟩ | ⟨_, rfl⟩
      · rw [q1, q3]; simp
      · exact Iff.rfl
    · intro L hL hxd hxr
      rcases e3 with ⟨us, us', q1, q2, q3⟩ | ⟨q1, rfl⟩
      · obtain ⟨xrw, xc⟩ := x
        obtain ⟨zrw, zc⟩ := z
        simp only at q1 q3 e2
        subst q1; subst q3; subst e2
        exact bkAvs_rel hγ hv hr.fresh q2 hxr (fun h => h)
      · unfold Blk.rel at hxr ⊢
        split
        · rename_i hc; simp only [hc] at hxr; exact hxr
        · rename_i us hc; exact absurd hc (q1 us)
        · trivial
  refine ⟨⟨by rw [List.length_append, w1]; omega, hle, hold, ⟨?_, ?_, ?_⟩, hext, ?_⟩, bkAV_ok hγ hv hr.fresh hb h2⟩
  · intro b z hz hzd
    rcases Nat.lt_or_ge b h'.length with hlt | hge
    · rw [List.getElem?_append_left hlt] at hz
      obtain ⟨y0, hy0, hyrw, hyd⟩ := hpart b z hz
      obtain ⟨L, hL, hrel⟩ := hr.blk b y0 hy0 (fun e => hzd (hyd.2 e))
      refine ⟨L, by rw [hold b (by omega)]; exact hL, ?_⟩
      rcases hcase b with hc | hc
      · exact (hwin b z L hz hL hc).2.2.1
      · rw [w2 b hc] at hz
        rw [hy0] at hz
        obtain rfl : y0 = z := by simpa using hz
        refine Blk.rel_world (Blk.rel_names hle hrel) (fun i hi => ?_) (fun i hi => ?_)
        · exact h4.cell _ (hr.blk_lt hy0 hL hi) (hkept b y0 L hy0 hL hc i hi)
        · exact h4.froz _ (hr.blk_lt hy0 hL hi)
    · rw [List.getElem?_append_right hge] at hz
      obtain ⟨x, e1, e2, e3, e4⟩ := hnblk _ z hz
      obtain ⟨L, hL, hrel⟩ := h3.blk _ x e1 (fun e => hzd (e3.2 e))
      refine ⟨L, ?_, e4 L hL (fun e => hzd (e3.2 e)) hrel⟩
      have := hnew (b - h'.length)
      rw [w1, show h.length + (b - h.length) = b by omega] at this
      rw [this, ← w1]; exact hL
  · intro b c x z L M hne hx hz hL hM hrw i j hi hj he
    have hnm : ∀ q, h.length ≤ q → bigN β γ h.length vs.length q = γ (vs.length + (q - h.length)) := fun q hq => by
      have := hnew (q - h.length); rw [show h.length + (q - h.length) = q by omega] at this; exact this
    rcases Nat.lt_or_ge b h'.length with h1b | h1b <;> rcases Nat.lt_or_ge c h'.length with h1c | h1c
    · rw [List.getElem?_append_left h1b] at hx
      rw [List.getElem?_append_left h1c] at hz
      rw [hold b (by omega)] at hL
      rw [hold c (by omega)] at hM
      obtain ⟨x0, hx0, hx0rw, hx0d⟩ := hpart b x hx
      obtain ⟨z0, hz0, _, hz0d⟩ := hpart c z hz
      exact hr.disj b c x0 z0 L M hne hx0 hz0 hL hM (by rw [← hx0rw]; exact hrw) i j (by rw [← hexteq x x0 L hx0d]; exact hi) (by rw [← hexteq z z0 M hz0d]; exact hj) he
    · rw [List.getElem?_append_left h1b] at hx
      rw [List.getElem?_append_right h1c] at hz
      rw [hold b (by omega)] at hL
      obtain ⟨x0, hx0, hx0rw, hx0d⟩ := hpart b x hx
      obtain ⟨z0, hz0, _, hz0d, _⟩ := hnblk _ z hz
      rw [hnm c (by omega), ← w1] at hM
      have := h5 _ z0 M (by omega) hz0 hM (by rw [← hexteq z z0 M hz0d]; omega)
      have := hr.blk_lt hx0 hL (i := i) (by rw [← hexteq x x0 L hx0d]; exact hi)
      omega
    · rw [List.getElem?_append_right h1b] at hx
      rw [List.getElem?_append_left h1c] at hz
      rw [hold c (by omega)] at hM
      obtain ⟨z0, hz0, _, hz0d⟩ := hpart c z hz
      obtain ⟨x0, hx0, _, hx0d, _⟩ := hnblk _ x hx
      rw [hnm b (by omega), ← w1] at hL
      have := h5 _ x0 L (by omega) hx0 hL (by rw [← hexteq x x0 L hx0d]; omega)
      have := hr.blk_lt hz0 hM (i := j) (by rw [← hexteq z z0 M hz0d]; exact hj)
      omega
    · rw [List.getElem?_append_right h1b] at hx
      rw [List.getElem?_append_right h1c] at hz
      obtain ⟨x0, hx0, hx0rw, hx0d, _⟩ := hnblk _ x hx
      obtain ⟨z0, hz0, _, hz0d, _⟩ := hnblk _ z hz
      rw [hnm b (by omega), ← w1] at hL
      rw [hnm c (by omega), ← w1] at hM
      exact h3.disj (vs.length + (b - h'.length)) (vs.length + (c - h'.length)) x0 z0 L M (by omega) hx0 hz0 hL hM (by rw [hx0rw]; exact hrw) i j (by rw [← hexteq x x0 L hx0d]; exact hi) (by rw [← hexteq z z0 M hz0d]; exact hj) he
  · intro b hb'
    rw [List.length_append, w1, n1, List.length_drop] at hb'
    have hsl := hok.len
    have : bigN β γ h.length vs.length b = γ (vs.length + (b - h.length)) := by
      have := hnew (b - h.length); rw [show h.length + (b - h.length) = b by omega] at this; exact this
    rw [this]
    exact h3.fresh _ (by omega)
  · rintro a ⟨b, x, L, i, hx, hrw, hL, hi, e1, e2⟩
    rcases Nat.lt_or_ge b h'.length with hlt | hge
    · rw [List.getElem?_append_left hlt] at hx
      rw [hold b (by omega)] at hL
      obtain ⟨x0, hx0, hx0rw, hx0d⟩ := hpart b x hx
      exact .inl ⟨b, x0, L, i, hx0, by rw [← hx0rw]; exact hrw, hL, by rw [← hexteq x x0 L hx0d]; exact hi, e1, e2⟩
    · rw [List.getElem?_append_right hge] at hx
      obtain ⟨x0, hx0, _, hx0d, _⟩ := hnblk _ x hx
      have : bigN β γ h.length vs.length b = γ (vs.length + (b - h.length)) := by
        have := hnew (b - h.length); rw [show h.length + (b - h.length) = b by omega] at this; exact this
      rw [this, ← w1] at hL
      exact .inr (by rw [e1]; exact h5 _ x0 L (by omega) hx0 hL (by rw [← hexteq x x0 L hx0d]; omega))

/-! a call that writes nothing: no window may be written -/

def roViews (vs : List View) : Prop := ∀ v ∈ vs, v.rw = false

theorem shPtrs_ro : ∀ {bs : List (Nat × Nat)} {vs : List View}, roViews vs → roViews (shPtrs false bs vs).2
  | [], _, h => h
  | (b, n) :: r, vs, h => by
    simp only [shPtrs]
    split
    · exact shPtrs_ro h
    · refine shPtrs_ro ?_
      intro v hv
      rcases List.mem_append.1 hv with hv | hv
      · exact h v hv
      · simp at hv; subst hv; rfl

theorem shCaps_ro : ∀ {cs : List (List (Nat × Nat))} {vs : List View}, roViews vs → roViews (shCaps false cs vs).2
  | [], _, h => h
  | c :: cs, vs, h => by
    simp only [shCaps]
    exact shCaps_ro (shPtrs_ro h)

theorem shAV_ro {x : AV} {vs : List View} (h : roViews vs) : roViews (shAV false vs x).2 := by
  cases x <;> simp only [shAV] <;> first
    | exact h
    | exact shPtrs_ro h
    | exact shCaps_ro h
    | (intro v hv
       rcases List.mem_append.1 hv with hv | hv
       · exact h v hv
       · simp at hv; subst hv; rfl)

theorem shAVs_ro : ∀ {fs : List Bool} {xs : List AV} {vs : List View}, fs.all (! ·) = true → roViews vs → roViews (shAVs fs xs vs).2
  | _, [], _, _, h => h
  | fs, x :: xs, vs, hf, h => by
    simp only [shAVs]
    have h1 : fs.headD false = false := by cases fs with | nil => rfl | cons b r => simp at hf ⊢; exact hf.1
    have h2 : fs.tail.all (! ·) = true := by cases fs with | nil => rfl | cons b r => simp at hf ⊢; exact hf.2
    rw [h1]
    exact shAVs_ro h2 (shAV_ro h)

theorem shHeap_ro {h : Heap} : ∀ {fuel i : Nat} {vs vf : List View} {acc sh : List Blk}, shHeap h fuel i vs acc = some (sh, vf) → roViews vs → (∀ x ∈ acc, x.rw = false) → ∀ x ∈ sh, x.rw = false
  | 0, _, _, _, _, _, hs, _, _ => by simp [shHeap] at hs
  | fuel + 1, i, vs, vf, acc, sh, hs, hv, ha => by
    simp only [shHeap] at hs
    split at hs
    · obtain ⟨rfl, rfl⟩ : acc = sh ∧ vs = vf := by simpa using hs
      exact ha
    · rename_i v hvi
      have hvr := hv v (List.mem_of_getElem? hvi)
      split at hs
      · refine shHeap_ro hs hv ?_
        intro x hx
        rcases List.mem_append.1 hx with hx | hx
        · exact ha x hx
        · simp at hx; subst hx; simp [hvr]
      · rename_i us _
        split at hs
        · have hro : (us.map fun _ => v.rw).all (! ·) = true := by simp [hvr]
          refine shHeap_ro hs (shAVs_ro hro hv) ?_
          intro x hx
          rcases List.mem_append.1 hx with hx | hx
          · exact ha x hx
          · simp at hx; subst hx; simp [hvr]
        · cases hs
      · cases hs

theorem quiet_small {h : Heap} {fs : List Bool} {args : List AV} {sh : List Blk} {vs : List View} (hs : shHeap h 40 0 (shAVs fs args []).2 [] = some (sh, vs)) (hq : fs.all (! ·) = true) : ∀ x ∈ sh, x.rw = false :=
  shHeap_ro hs (shAVs_ro hq (by intro v hv; simp at hv)) (by simp)

theorem xcall_ok {ρ : Type} {E : Env} (hS : SpecOK E) {f : FuncId} {args : List AV} {h : Heap} {k : AV → Heap → Option ρ} {r : ρ} (hx : xcall E f args h k = some r) :
    ∃ v h', k v h' = some r ∧ ((E.wr f).all (! ·) = true → ∃ nb, h' = h ++ nb) ∧ ∀ (β : Names) (w : World) (ys : List Value), HRel β h w → all2 (AV.rel β) args ys →
      Calls E.P f ys.toArray w fun e w' => ∃ γ y, e = .returned y ∧ v.rel γ y ∧ After β γ h h' w w' := by
  unfold xcall at hx
  split at hx
  · rename_i sh vs hsh
    split at hx
    · rename_i hap
      obtain ⟨v, sh', hk, hok⟩ := hS _ _ _ _ _ _ hx
      split at hk
      · rename_i v' h' nb hb hw hn
        refine ⟨v', h' ++ nb, hk, fun hq => ⟨nb, ?_⟩, fun β w ys hr hy => ?_⟩
        · have : ∀ x ∈ sh, x.rw = false := quiet_small hsh hq
          rw [wback_quiet hw this]
        · obtain ⟨p1, p2, p3⟩ := shArgs_ok (β := β) (fs := E.wr f) (vs := []) (by intro v hv; simp at hv) hy
          obtain ⟨q1, q2, q3, q4⟩ := shHeap_ok hr hsh p2 rfl (by simp)
          have hsm := small_rel hr q3 q4 hap q2
          refine (hok.run _ w ys hsm (p3 vs q1)).mono ?_
          rintro e w' ⟨γ, y, rfl, e1, e2, e3, e4, e5⟩
          obtain ⟨a1, a2⟩ := call_after hr q3 q4 q2 hap hok hb hw hn e1 e2 e3 e4 e5
          exact ⟨_, y, rfl, a2, a1⟩
      · cases hk
    · cases hx
  · cases hx

end Go.Proofs.Ytjnfeffflkgddaa.Hx
