/- A call: the callee sees a small memory, windows of the caller's; what it wrote is laid back. -/
import Derived.Test.YtjnfeffflkgddaaHxOne
namespace Go.Proofs.Ytjnfeffflkgddaa.Hx
set_option linter.unusedVariables false
set_option linter.unusedSimpArgs false
open Go Go.RowKit

structure View where
  b : Nat
  o : Nat
  n : Nat
  rw : Bool
  whole : Bool

def viewLen (len : Nat) (cap : Option Nat) (esz : Nat) : Nat := match cap with | some c => c * esz | none => len * esz

def findW (b : Nat) : List View → Nat → Option Nat
  | [], _ => none
  | v :: r, i => if v.whole = true ∧ v.b = b then some i else findW b r (i + 1)

def shPtrs (rw : Bool) : List (Nat × Nat) → List View → List (Nat × Nat) × List View
  | [], vs => ([], vs)
  | (b, n) :: r, vs => match findW b vs 0 with
    | some i => ((i, n) :: (shPtrs rw r vs).1, (shPtrs rw r vs).2)
    | none => ((vs.length, n) :: (shPtrs rw r (vs ++ [⟨b, 0, n, rw, true⟩])).1, (shPtrs rw r (vs ++ [⟨b, 0, n, rw, true⟩])).2)

def shCaps (rw : Bool) : List (List (Nat × Nat)) → List View → List (List (Nat × Nat)) × List View
  | [], vs => ([], vs)
  | c :: r, vs => ((shPtrs rw c vs).1 :: (shCaps rw r (shPtrs rw c vs).2).1, (shCaps rw r (shPtrs rw c vs).2).2)

def shAV (rw : Bool) (vs : List View) : AV → AV × List View
  | .ptr b o n => (.sptr [(vs.length, n)], vs ++ [⟨b, o, n, rw, false⟩])
  | .sptr bs => (.sptr (shPtrs rw bs vs).1, (shPtrs rw bs vs).2)
  | .slice b o len cap esz => (.slice vs.length 0 len cap esz, vs ++ [⟨b, o, viewLen len cap esz, rw, false⟩])
  | .fn f k caps => (.fn f k (shCaps rw caps vs).1, (shCaps rw caps vs).2)
  | .tup _ => (.any, vs)
  | v => (v, vs)

def shAVs : List Bool → List AV → List View → List AV × List View
  | _, [], vs => ([], vs)
  | fs, a :: r, vs => ((shAV (fs.headD false) vs a).1 :: (shAVs fs.tail r (shAV (fs.headD false) vs a).2).1, (shAVs fs.tail r (shAV (fs.headD false) vs a).2).2)

def shHeap (h : Heap) : Nat → Nat → List View → List Blk → Option (List Blk × List View)
  | 0, _, _, _ => none
  | fuel + 1, i, vs, acc => match vs[i]? with
    | none => some (acc, vs)
    | some v => (match h[v.b]? with
      | some ⟨rw, .ints k _ g⟩ => shHeap h fuel (i + 1) vs (acc ++ [⟨rw && v.rw, .ints k v.n (if v.whole = true then g else fun j => g (v.o + j))⟩])
      | some ⟨rw, .avs us⟩ => if v.whole = true then shHeap h fuel (i + 1) (shAVs (us.map fun _ => v.rw) us vs).2 (acc ++ [⟨rw && v.rw, .avs (shAVs (us.map fun _ => v.rw) us vs).1⟩]) else none
      | _ => none)

def small (β : Names) (vs : List View) : Names := fun i => match vs[i]? with
  | none => none
  | some v => match β v.b with
    | some L => some ⟨L.blk, L.base + v.o, v.n⟩
    | none => none

def ViewOk (β : Names) (v : View) : Prop := ∃ L, β v.b = some L ∧ v.o + v.n ≤ L.cells ∧ (v.whole = true → v.o = 0 ∧ v.n = L.cells)
def ViewsOk (β : Names) (vs : List View) : Prop := ∀ v ∈ vs, ViewOk β v

theorem small_at {β : Names} {vs : List View} {i : Nat} {v : View} {L : Loc} (hi : vs[i]? = some v) (hL : β v.b = some L) : small β vs i = some ⟨L.blk, L.base + v.o, v.n⟩ := by
  simp [small, hi, hL]

theorem pre_get {vs vf : List View} (h : vs <+: vf) {i : Nat} {v : View} (hi : vs[i]? = some v) : vf[i]? = some v := by
  obtain ⟨t, rfl⟩ := h
  rw [List.getElem?_append_left (List.getElem?_eq_some_iff.1 hi).1]; exact hi

theorem findW_some {b : Nat} : ∀ {vs : List View} {i j : Nat}, findW b vs i = some j → ∃ v, i ≤ j ∧ vs[j - i]? = some v ∧ v.whole = true ∧ v.b = b
  | [], _, _, h => by simp [findW] at h
  | v :: r, i, j, h => by
    simp only [findW] at h
    split at h
    · rename_i hv
      cases h
      exact ⟨v, Nat.le_refl _, by simp, hv.1, hv.2⟩
    · obtain ⟨u, h1, h2, h3⟩ := findW_some h
      refine ⟨u, by omega, ?_, h3⟩
      rw [show j - i = (j - (i + 1)) + 1 by omega]
      simpa using h2

theorem shPtrs_ok {β : Names} {rw : Bool} : ∀ {bs : List (Nat × Nat)} {vs : List View} {blk base : Nat}, ViewsOk β vs → chained β blk base bs →
    vs <+: (shPtrs rw bs vs).2 ∧ ViewsOk β (shPtrs rw bs vs).2 ∧ ∀ vf, (shPtrs rw bs vs).2 <+: vf → chained (small β vf) blk base (shPtrs rw bs vs).1
  | [], vs, _, _, hv, _ => ⟨List.prefix_refl _, hv, fun _ _ => trivial⟩
  | (b, n) :: r, vs, blk, base, hv, ⟨h1, h2⟩ => by
    simp only [shPtrs]
    split
    · rename_i i hf
      obtain ⟨v, _, h3, h4, h5⟩ := findW_some hf
      simp only [Nat.sub_zero] at h3
      obtain ⟨p1, p2, p3⟩ := shPtrs_ok (rw := rw) hv h2
      refine ⟨p1, p2, fun vf hvf => ⟨?_, p3 vf hvf⟩⟩
      obtain ⟨L, hL, _, hw⟩ := hv v (List.mem_of_getElem? h3)
      rw [h5, h1] at hL
      cases hL
      have := small_at (β := β) (pre_get (p1.trans hvf) h3) (by rw [h5]; exact h1)
      rw [this, (hw h4).1, (hw h4).2]; rfl
    · have hv' : ViewsOk β (vs ++ [⟨b, 0, n, rw, true⟩]) := by
        intro v hm
        rcases List.mem_append.1 hm with hm | hm
        · exact hv v hm
        · simp at hm; subst hm
          exact ⟨_, h1, by simp, fun _ => ⟨rfl, rfl⟩⟩
      obtain ⟨p1, p2, p3⟩ := shPtrs_ok (rw := rw) hv' h2
      refine ⟨(List.prefix_append _ _).trans p1, p2, fun vf hvf => ⟨?_, p3 vf hvf⟩⟩
      have hg : vf[vs.length]? = some ⟨b, 0, n, rw, true⟩ := pre_get (p1.trans hvf) (by simp)
      rw [small_at (β := β) hg h1]; rfl

theorem shPtrs_ne {rw : Bool} : ∀ {bs : List (Nat × Nat)} {vs : List View}, bs ≠ [] → (shPtrs rw bs vs).1 ≠ []
  | [], _, h => absurd rfl h
  | (b, n) :: r, vs, _ => by simp only [shPtrs]; split <;> simp

theorem ptrRel_small {β : Names} {rw : Bool} {bs : List (Nat × Nat)} {vs : List View} {y : Value} (hv : ViewsOk β vs) (h : ptrRel β bs y) :
    vs <+: (shPtrs rw bs vs).2 ∧ ViewsOk β (shPtrs rw bs vs).2 ∧ ∀ vf, (shPtrs rw bs vs).2 <+: vf → ptrRel (small β vf) (shPtrs rw bs vs).1 y := by
  obtain ⟨h1, blk, base, h2, h3⟩ := h
  obtain ⟨p1, p2, p3⟩ := shPtrs_ok (rw := rw) hv h3
  exact ⟨p1, p2, fun vf hvf => ⟨shPtrs_ne h1, blk, base, h2, p3 vf hvf⟩⟩

theorem shCaps_ok {β : Names} {rw : Bool} : ∀ {cs : List (List (Nat × Nat))} {ys : List Value} {vs : List View}, ViewsOk β vs → all2 (ptrRel β) cs ys →
    vs <+: (shCaps rw cs vs).2 ∧ ViewsOk β (shCaps rw cs vs).2 ∧ ∀ vf, (shCaps rw cs vs).2 <+: vf → all2 (ptrRel (small β vf)) (shCaps rw cs vs).1 ys
  | [], [], vs, hv, _ => ⟨List.prefix_refl _, hv, fun _ _ => trivial⟩
  | c :: cs, y :: ys, vs, hv, ⟨h1, h2⟩ => by
    simp only [shCaps]
    obtain ⟨p1, p2, p3⟩ := ptrRel_small (rw := rw) hv h1
    obtain ⟨q1, q2, q3⟩ := shCaps_ok (rw := rw) p2 h2
    exact ⟨p1.trans q1, q2, fun vf hvf => ⟨p3 vf (q1.trans hvf), q3 vf hvf⟩⟩
  | [], _ :: _, _, _, h => h.elim
  | _ :: _, [], _, _, h => h.elim

theorem shAV_ok {β : Names} {rw : Bool} {x : AV} {y : Value} {vs : List View} (hv : ViewsOk β vs) (h : x.rel1 β y) :
    vs <+: (shAV rw vs x).2 ∧ ViewsOk β (shAV rw vs x).2 ∧ ∀ vf, (shAV rw vs x).2 <+: vf → (shAV rw vs x).1.rel1 (small β vf) y := by
  cases x <;> simp only [shAV]
  case ptr b o n =>
    obtain ⟨L, hL, rfl, hin⟩ := h
    refine ⟨List.prefix_append _ _, ?_, fun vf hvf => ?_⟩
    · intro v hm
      rcases List.mem_append.1 hm with hm | hm
      · exact hv v hm
      · simp at hm; subst hm
        exact ⟨L, hL, hin, fun h => by cases h⟩
    · have hg : vf[vs.length]? = some ⟨b, o, n, rw, false⟩ := pre_get hvf (by simp)
      exact ⟨by simp, L.blk, L.base + o, by simp [Loc.at], small_at (β := β) hg hL, trivial⟩
  case sptr bs => exact ptrRel_small hv h
  case slice b o len cap esz =>
    obtain ⟨L, a, c, hL, rfl, hle, ha, hcap⟩ := h
    refine ⟨List.prefix_append _ _, ?_, fun vf hvf => ?_⟩
    · intro v hm
      rcases List.mem_append.1 hm with hm | hm
      · exact hv v hm
      · simp at hm; subst hm
        refine ⟨L, hL, ?_, fun h => by cases h⟩
        cases cap with
        | none => exact hcap
        | some c0 => simp only [viewLen]; exact hcap.2
    · have hg : vf[vs.length]? = some ⟨b, o, viewLen len cap esz, rw, false⟩ := pre_get hvf (by simp)
      refine ⟨_, a, c, small_at (β := β) hg hL, rfl, hle, ?_, ?_⟩
      · rcases ha with ha | ha
        · exact .inl ha
        · exact .inr (by rw [ha]; simp [Loc.at])
      · cases cap with
        | none => simp [viewLen]
        | some c0 => exact ⟨hcap.1, by simp [viewLen]⟩
  case fn f k caps =>
    obtain ⟨ys, h1, h2⟩ := h
    obtain ⟨p1, p2, p3⟩ := shCaps_ok (rw := rw) hv h2
    exact ⟨p1, p2, fun vf hvf => ⟨ys, h1, p3 vf hvf⟩⟩
  case tup xs => exact h.elim
  all_goals exact ⟨List.prefix_refl _, hv, fun _ _ => h⟩

theorem shAVs_ok {β : Names} : ∀ {fs : List Bool} {xs : List AV} {ys : List Value} {vs : List View}, ViewsOk β vs → all2 (AV.rel1 β) xs ys →
    vs <+: (shAVs fs xs vs).2 ∧ ViewsOk β (shAVs fs xs vs).2 ∧ ∀ vf, (shAVs fs xs vs).2 <+: vf → all2 (AV.rel1 (small β vf)) (shAVs fs xs vs).1 ys
  | _, [], [], vs, hv, _ => ⟨List.prefix_refl _, hv, fun _ _ => trivial⟩
  | fs, x :: xs, y :: ys, vs, hv, ⟨h1, h2⟩ => by
    simp only [shAVs]
    obtain ⟨p1, p2, p3⟩ := shAV_ok (rw := fs.headD false) hv h1
    obtain ⟨q1, q2, q3⟩ := shAVs_ok (fs := fs.tail) p2 h2
    exact ⟨p1.trans q1, q2, fun vf hvf => ⟨p3 vf (q1.trans hvf), q3 vf hvf⟩⟩
  | _, [], _ :: _, _, _, h => h.elim
  | _, _ :: _, [], _, _, h => h.elim

/-- what the small memory's blocks are -/
def SmallBlk (β : Names) (h : Heap) (w : World) (vf : List View) (i : Nat) (x : Blk) : Prop :=
  ∃ v y L, vf[i]? = some v ∧ h[v.b]? = some y ∧ β v.b = some L ∧ y.c ≠ .dead ∧ (x.rw = (y.rw && v.rw)) ∧ x.c ≠ .dead ∧ x.rel (small β vf) ⟨L.blk, L.base + v.o, v.n⟩ w

theorem avs_vals {β : Names} {L : Loc} {rw : Bool} {us : List AV} {w : World} (h : Blk.rel β L ⟨rw, .avs us⟩ w) : ∃ ys : List Value, all2 (AV.rel1 β) us ys ∧ ∀ i y, ys[i]? = some y → w.cell? (L.at i) = some y ∧ (rw = true → w.frozen? (L.at i) = false) := by
  have key : ∀ (us : List AV) (o : Nat), (∀ (i : Nat) (v : AV), us[i]? = some v → ∃ u, w.cell? (L.at (o + i)) = some u ∧ v.rel1 β u ∧ (rw = true → w.frozen? (L.at (o + i)) = false)) →
      ∃ ys : List Value, all2 (AV.rel1 β) us ys ∧ ∀ i y, ys[i]? = some y → w.cell? (L.at (o + i)) = some y ∧ (rw = true → w.frozen? (L.at (o + i)) = false) := by
    intro us
    induction us with
    | nil => intro o _; exact ⟨[], trivial, by simp⟩
    | cons u us ih =>
      intro o h
      obtain ⟨y, h1, h2, h3⟩ := h 0 u rfl
      obtain ⟨ys, h4, h5⟩ := ih (o + 1) (fun i v hv => by
        have := h (i + 1) v (by simpa using hv)
        rw [show o + (i + 1) = o + 1 + i by omega] at this
        exact this)
      refine ⟨y :: ys, ⟨h2, h4⟩, fun i z hz => ?_⟩
      cases i with
      | zero => simp at hz; subst hz; exact ⟨h1, h3⟩
      | succ i =>
        have := h5 i z (by simpa using hz)
        rw [show o + 1 + i = o + (i + 1) by omega] at this
        exact this
  simp only [Blk.rel] at h
  obtain ⟨ys, h1, h2⟩ := key us 0 (fun i v hv => by simpa using h.2 i v hv)
  exact ⟨ys, h1, fun i y hy => by simpa using h2 i y hy⟩

theorem shHeap_ok {β : Names} {h : Heap} {w : World} (hr : HRel β h w) : ∀ {fuel i : Nat} {vs vf : List View} {acc sh : List Blk}, shHeap h fuel i vs acc = some (sh, vf) → ViewsOk β vs → acc.length = i →
    (∀ vg, vs <+: vg → ∀ j x, acc[j]? = some x → SmallBlk β h w vg j x) →
    vs <+: vf ∧ ViewsOk β vf ∧ sh.length = vf.length ∧ ∀ j x, sh[j]? = some x → SmallBlk β h w vf j x
  | 0, _, _, _, _, _, hs, _, _, _ => by simp [shHeap] at hs
  | fuel + 1, i, vs, vf, acc, sh, hs, hv, hl, hacc => by
    simp only [shHeap] at hs
    split at hs
    · rename_i hnone
      obtain ⟨rfl, rfl⟩ : acc = sh ∧ vs = vf := by simpa using hs
      have hle : vs.length ≤ acc.length := by rw [hl]; simpa using hnone
      refine ⟨List.prefix_refl _, hv, ?_, hacc vs (List.prefix_refl _)⟩
      rcases Nat.lt_or_ge vs.length acc.length with hlt | hge
      · obtain ⟨v, _, _, h1, _⟩ := hacc vs (List.prefix_refl _) vs.length (acc[vs.length]'hlt) (List.getElem?_eq_getElem hlt)
        simp at h1
      · omega
    · rename_i v hvi
      obtain ⟨L, hL, hin, hwh⟩ := hv v (List.mem_of_getElem? hvi)
      split at hs
      · rename_i rw k m g hb
        obtain ⟨L', hL', hrel⟩ := hr.blk v.b _ hb (by simp)
        rw [hL] at hL'; cases hL'
        simp only [Blk.rel] at hrel
        refine shHeap_ok hr hs hv (by simp [hl]) (fun vg hvg j x hx => ?_)
        rcases Nat.lt_or_ge j acc.length with hlt | hge
        · rw [List.getElem?_append_left hlt] at hx
          exact hacc vg hvg j x hx
        · rw [List.getElem?_append_right hge] at hx
          have hj : j = i := by
            have := (List.getElem?_eq_some_iff.1 hx).1
            simp at this; omega
          subst hj
          rw [hl] at hx
          simp at hx; subst hx
          refine ⟨v, _, L, pre_get hvg hvi, hb, hL, by simp, rfl, by simp, ?_⟩
          simp only [Blk.rel]
          refine ⟨trivial, fun p hp => ?_⟩
          have h1 := hrel.2 (v.o + p) (by omega)
          have e : (⟨L.blk, L.base + v.o, v.n⟩ : Loc).at p = L.at (v.o + p) := by simp [Loc.at]; omega
          rw [e]
          refine ⟨?_, fun hrw => h1.2 (by simp at hrw; exact hrw.1)⟩
          rw [h1.1]
          by_cases hw : v.whole = true
          · rw [if_pos hw, (hwh hw).1]; simp
          · rw [if_neg hw]
      · rename_i rw us hb
        split at hs
        · rename_i hw
          obtain ⟨L', hL', hrel⟩ := hr.blk v.b _ hb (by simp)
          rw [hL] at hL'; cases hL'
          obtain ⟨ys, hys, hcells⟩ := avs_vals hrel
          simp only [Blk.rel] at hrel
          obtain ⟨p1, p2, p3⟩ := shAVs_ok (fs := us.map fun _ => v.rw) hv hys
          obtain ⟨q1, q2, q3, q4⟩ := shHeap_ok hr hs p2 (by simp [hl]) (fun vg hvg j x hx => by
            rcases Nat.lt_or_ge j acc.length with hlt | hge
            · rw [List.getElem?_append_left hlt] at hx
              exact hacc vg (p1.trans hvg) j x hx
            · rw [List.getElem?_append_right hge] at hx
              have hj : j = i := by
                have := (List.getElem?_eq_some_iff.1 hx).1
                simp at this; omega
              subst hj
              rw [hl] at hx
              simp at hx; subst hx
              refine ⟨v, _, L, pre_get (p1.trans hvg) hvi, hb, hL, by simp, rfl, by simp, ?_⟩
              have hall := p3 vg hvg
              simp only [Blk.rel]
              refine ⟨?_, fun p u hu => ?_⟩
              · have e1 := all2_length hall
                have e2 := all2_length hys
                rw [(hwh hw).2]; omega
              · obtain ⟨y, hy, hyr⟩ := all2_get hall hu
                have hc := hcells p y hy
                have e : (⟨L.blk, L.base + v.o, v.n⟩ : Loc).at p = L.at p := by simp [Loc.at, (hwh hw).1]
                rw [e]
                exact ⟨y, hc.1, hyr, fun hrw => hc.2 (by simp at hrw; exact hrw.1)⟩)
          exact ⟨p1.trans q1, q2, q3, q4⟩
        · cases hs
      · cases hs

def apartOk (vs : List View) (sh : List Blk) : Bool :=
  (List.range vs.length).all fun i => (List.range vs.length).all fun j => i == j || !((sh[i]?.map (·.rw)).getD false) || (vs[i]?.map (·.b)) != (vs[j]?.map (·.b))

theorem apartOk_at {vs : List View} {sh : List Blk} (h : apartOk vs sh = true) {i j : Nat} {x : Blk} {v u : View} (hi : vs[i]? = some v) (hj : vs[j]? = some u) (hx : sh[i]? = some x) (hrw : x.rw = true) (hne : i ≠ j) : v.b ≠ u.b := by
  unfold apartOk at h
  simp only [List.all_eq_true, List.mem_range] at h
  have := h i (List.getElem?_eq_some_iff.1 hi).1 j (List.getElem?_eq_some_iff.1 hj).1
  simp [hi, hj, hx, hrw, hne] at this
  exact this

/-- The small memory stands in the same world. -/
theorem small_rel {β : Names} {h : Heap} {w : World} (hr : HRel β h w) {vf : List View} {sh : List Blk} (hl : sh.length = vf.length) (hs : ∀ j x, sh[j]? = some x → SmallBlk β h w vf j x) (ha : apartOk vf sh = true) (hv : ViewsOk β vf) : HRel (small β vf) sh w where
  blk := by
    intro b x hx _
    obtain ⟨v, y, L, h1, _, h3, _, _, _, h6⟩ := hs b x hx
    exact ⟨_, small_at h1 h3, h6⟩
  disj := by
    intro b c x z M N hne hx hz hM hN hrw i j hi hj he
    obtain ⟨v, y, L, h1, h2, h3, h4, h5, _, _⟩ := hs b x hx
    obtain ⟨v', y', L', h1', h2', h3', h4', _, _, _⟩ := hs c z hz
    rw [small_at h1 h3] at hM; cases hM
    rw [small_at h1' h3'] at hN; cases hN
    have hb := apartOk_at ha h1 h1' hx hrw hne
    have hyrw : y.rw = true := by rw [hrw] at h5; simp at h5; exact h5.1.symm ▸ rfl
    obtain ⟨_, hL1, hin, _⟩ := hv v (List.mem_of_getElem? h1)
    rw [h3] at hL1; cases hL1
    obtain ⟨_, hL2, hin', _⟩ := hv v' (List.mem_of_getElem? h1')
    rw [h3'] at hL2; cases hL2
    have e1 : y.ext L = L.cells := by unfold Blk.ext; split <;> simp_all
    have e2 : y'.ext L' = L'.cells := by unfold Blk.ext; split <;> simp_all
    have hi' := Nat.lt_of_lt_of_le hi Blk.ext_le
    have hj' := Nat.lt_of_lt_of_le hj Blk.ext_le
    simp only at hi' hj' he
    have := hr.disj v.b v'.b y y' L L' hb h2 h2' h3 h3' hyrw (v.o + i) (v'.o + j) (by omega) (by omega) he
    simp only
    omega
  fresh := by
    intro b hb
    have : vf[b]? = none := by simp; omega
    simp [small, this]

theorem small_mine {β : Names} {h : Heap} {w : World} {vf : List View} {sh : List Blk} (hs : ∀ j x, sh[j]? = some x → SmallBlk β h w vf j x) (hv : ViewsOk β vf) (a : Addr) (hm : Mine (small β vf) sh a) :
    ∃ (i : Nat) (x : Blk) (v : View) (y : Blk) (L : Loc), sh[i]? = some x ∧ x.rw = true ∧ vf[i]? = some v ∧ h[v.b]? = some y ∧ y.rw = true ∧ β v.b = some L ∧ y.c ≠ .dead ∧ a.block = L.blk ∧ L.base + v.o ≤ a.off ∧ a.off < L.base + v.o + v.n ∧ v.o + v.n ≤ L.cells := by
  obtain ⟨b, x, M, i, hx, hrw, hM, hi, h1, h2⟩ := hm
  obtain ⟨v, y, L, h3, h4, h5, h6, h7, _, _⟩ := hs b x hx
  rw [small_at h3 h5] at hM; cases hM
  obtain ⟨_, hL1, hin, _⟩ := hv v (List.mem_of_getElem? h3)
  rw [h5] at hL1; cases hL1
  have hi' := Nat.lt_of_lt_of_le hi Blk.ext_le
  simp only at hi' h1 h2
  rw [hrw] at h7
  simp at h7
  exact ⟨b, x, v, y, L, hx, hrw, h3, h4, h7.1, h5, h6, h1, by omega, by omega, hin⟩

end Go.Proofs.Ytjnfeffflkgddaa.Hx
