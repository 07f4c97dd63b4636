import Derived.Test.YtoeailachidcdaaGreatDoorHgOne
namespace Go.Proofs.YtoeailachidcdaaGreatDoor.Hg
set_option linter.unusedVariables false
set_option linter.unusedSimpArgs false
set_option linter.unusedSectionVars false
open Go Go.RowKit
variable [Gl : Glob]
structure View where
  b : Nat
  o : Nat
  n : Nat
  whole : Bool
def viewLen (len : Nat) (cap : Cap) (esz : Nat) : Nat := match cap with | .exact c => c * esz | _ => len * esz
def viewCap : Cap → Cap | .exact c => .exact c | _ => .unk
def View.loc (v : View) (L : Loc) : Loc := if v.whole = true then L else ⟨fun i => if i < v.n then L.pl (v.o + i) else none, fun _ _ => False⟩
theorem View.loc_whole {v : View} (h : v.whole = true) (L : Loc) : v.loc L = L := if_pos h
theorem View.loc_pl {v : View} {L : Loc} (h : v.whole = false) {i : Nat} {p : Nat × Nat} : (v.loc L).pl i = some p ↔ i < v.n ∧ L.pl (v.o + i) = some p := by
  unfold View.loc
  rw [if_neg (by simp [h])]
  simp only
  split
  · rename_i hc; simp [hc]
  · rename_i hc; simp [hc]
theorem View.loc_own {v : View} {L : Loc} {B X : Nat} (h : (v.loc L).own B X) : L.own B X := by
  cases hw : v.whole with
  | true => rw [View.loc_whole hw] at h; exact h
  | false =>
    rcases h with ⟨i, h⟩ | h
    · exact .inl ⟨_, ((View.loc_pl hw).1 h).2⟩
    · unfold View.loc at h
      rw [if_neg (by simp [hw])] at h
      exact h.elim
theorem View.loc_inj {v : View} {L : Loc} (h : L.inj) : (v.loc L).inj := by
  cases hw : v.whole with
  | true => rw [View.loc_whole hw]; exact h
  | false =>
    refine ⟨fun i j p hi hj => ?_, fun i B X hi hs => ?_⟩
    · have := h.1 _ _ p ((View.loc_pl hw).1 hi).2 ((View.loc_pl hw).1 hj).2
      omega
    · unfold View.loc at hs
      rw [if_neg (by simp [hw])] at hs
      exact hs
theorem View.loc_lin {v : View} {L : Loc} {B X : Nat} (hw : v.whole = false) (h : L.span v.o v.n B X) : v.loc L = Loc.lin B X v.n := by
  unfold View.loc Loc.lin Loc.grow
  rw [if_neg (by simp [hw])]
  congr 1
  · funext i
    by_cases hi : i < v.n
    · rw [if_pos hi, if_pos hi]; exact h i hi
    · rw [if_neg hi, if_neg hi]
  · funext B' X'
    apply propext
    constructor
    · exact fun h => h.elim
    · rintro ⟨_, h1, h2⟩; omega
theorem View.loc_span {v : View} {L : Loc} {a m B X : Nat} (hw : v.whole = false) (h : L.span (v.o + a) m B X) (hm : a + m ≤ v.n) : (v.loc L).span a m B X := by
  intro j hj
  refine (View.loc_pl hw).2 ⟨by omega, ?_⟩
  rw [← Nat.add_assoc]
  exact h j hj
def findW (b : Nat) : List View → Nat → Option Nat
  | [], _ => none
  | v :: r, i => if v.whole = true ∧ v.b = b then some i else findW b r (i + 1)
def pushW (b : Nat) (vs : List View) : Nat × List View := match findW b vs 0 with
  | some i => (i, vs)
  | none => (vs.length, vs ++ [⟨b, 0, 0, true⟩])
def shPtrs : List (Nat × Nat) → List View → List (Nat × Nat) × List View
  | [], vs => ([], vs)
  | (b, n) :: r, vs => (((pushW b vs).1, n) :: (shPtrs r (pushW b vs).2).1, (shPtrs r (pushW b vs).2).2)
def shCaps : List (List (Nat × Nat)) → List View → List (List (Nat × Nat)) × List View
  | [], vs => ([], vs)
  | c :: r, vs => ((shPtrs c vs).1 :: (shCaps r (shPtrs c vs).2).1, (shCaps r (shPtrs c vs).2).2)
def shAV (fl : List Bool) (vs : List View) : AV → AV × List View
  | .ptr b o n => (.sptr [(vs.length, n)], vs ++ [⟨b, o, n, false⟩])
  | .sptr bs => (.sptr (shPtrs bs vs).1, (shPtrs bs vs).2)
  | .slice nn b o len cap esz => match cap, fl.getD (pushW b vs).1 false with
    | .whole, true => (.slice nn (pushW b vs).1 o len .whole esz, (pushW b vs).2)
    | cap, _ => (.slice nn vs.length 0 len (viewCap cap) esz, vs ++ [⟨b, o, viewLen len cap esz, false⟩])
  | .fn f k caps => (.fn f k (shCaps caps vs).1, (shCaps caps vs).2)
  | .tup _ => (.any, vs)
  | .mixv _ => (.any, vs)
  | v => (v, vs)
def shAVs (fl : List Bool) : List AV → List View → List AV × List View
  | [], vs => ([], vs)
  | a :: r, vs => ((shAV fl vs a).1 :: (shAVs fl r (shAV fl vs a).2).1, (shAVs fl r (shAV fl vs a).2).2)
def offN (o : Nat) (g : Nat → Nat) : Nat → Nat := fun j => g (o + j)
def offC (o : Nat) : Option (Nat → Nat) → Option (Nat → Nat)
  | some g => some (offN o g)
  | none => none
def shHeap (fl : List Bool) (h : Heap) : Nat → Nat → List View → List Blk → Option (List Blk × List View)
  | 0, _, _, _ => none
  | fuel + 1, i, vs, acc => match vs[i]? with
    | none => some (acc, vs)
    | some v => (match h[v.b]? with
      | some ⟨rw, .flat m f⟩ => shHeap fl h fuel (i + 1) vs (acc ++ [⟨rw && fl.getD i false, .flat (if v.whole = true then m else v.n) (if v.whole = true then f else f.off v.o)⟩])
      | some ⟨rw, .hdr p m q of ln cp⟩ => if v.whole = true then
          shHeap fl h fuel (i + 1) (pushW p vs).2 (acc ++ [⟨rw && fl.getD i false, .hdr (pushW p vs).1 m q of ln cp⟩])
        else shHeap fl h fuel (i + 1) (pushW p vs).2 (acc ++ [⟨rw && fl.getD i false, .hdr (pushW p vs).1 v.n q (offN v.o of) (offN v.o ln) (offC v.o cp)⟩])
      | some ⟨rw, .avs us⟩ => if v.whole = true then shHeap fl h fuel (i + 1) (shAVs fl us vs).2 (acc ++ [⟨rw && fl.getD i false, .avs (shAVs fl us vs).1⟩]) else none
      | _ => none)
def small (β : Names) (vs : List View) : Names := fun i => match vs[i]? with
  | none => none
  | some v => match β v.b with
    | some L => some (v.loc L)
    | none => none
def ViewOk (β : Names) (v : View) : Prop := ∃ L, β v.b = some L
def ViewsOk (β : Names) (vs : List View) : Prop := ∀ v ∈ vs, ViewOk β v
theorem small_at {β : Names} {vs : List View} {i : Nat} {v : View} {L : Loc} (hi : vs[i]? = some v) (hL : β v.b = some L) : small β vs i = some (v.loc L) := by
  simp [small, hi, hL]
theorem pre_get {vs vf : List View} (h : vs <+: vf) {i : Nat} {v : View} (hi : vs[i]? = some v) : vf[i]? = some v := by
  obtain ⟨t, rfl⟩ := h
  rw [List.getElem?_append_left (List.getElem?_eq_some_iff.1 hi).1]; exact hi
theorem findW_some {b : Nat} : ∀ {vs : List View} {i j : Nat}, findW b vs i = some j → ∃ v, i ≤ j ∧ vs[j - i]? = some v ∧ v.whole = true ∧ v.b = b
  | [], _, _, h => by simp [findW] at h
  | v :: r, i, j, h => by
    simp only [findW] at h
    split at h
    · rename_i hv
      cases h
      exact ⟨v, Nat.le_refl _, by simp, hv.1, hv.2⟩
    · obtain ⟨u, h1, h2, h3⟩ := findW_some h
      refine ⟨u, by omega, ?_, h3⟩
      rw [show j - i = (j - (i + 1)) + 1 by omega]
      simpa using h2
theorem pushW_ok {β : Names} {b : Nat} {L : Loc} {vs : List View} (hv : ViewsOk β vs) (hL : β b = some L) :
    vs <+: (pushW b vs).2 ∧ ViewsOk β (pushW b vs).2 ∧ ∀ vf, (pushW b vs).2 <+: vf → small β vf (pushW b vs).1 = some L := by
  unfold pushW
  split
  · rename_i i hf
    obtain ⟨v, _, h3, h4, h5⟩ := findW_some hf
    simp only [Nat.sub_zero] at h3
    refine ⟨List.prefix_refl _, hv, fun vf hvf => ?_⟩
    have := small_at (β := β) (pre_get hvf h3) (by rw [h5]; exact hL)
    rw [this, View.loc_whole h4]
  · refine ⟨List.prefix_append _ _, ?_, fun vf hvf => ?_⟩
    · intro v hm
      rcases List.mem_append.1 hm with hm | hm
      · exact hv v hm
      · simp at hm; subst hm
        exact ⟨L, hL⟩
    · have hg : vf[vs.length]? = some ⟨b, 0, 0, true⟩ := pre_get hvf (by simp)
      rw [small_at (β := β) hg hL]; rfl
theorem shPtrs_ok {β : Names} : ∀ {bs : List (Nat × Nat)} {vs : List View} {blk base : Nat}, ViewsOk β vs → chained β blk base bs →
    vs <+: (shPtrs bs vs).2 ∧ ViewsOk β (shPtrs bs vs).2 ∧ ∀ vf, (shPtrs bs vs).2 <+: vf → chained (small β vf) blk base (shPtrs bs vs).1
  | [], vs, _, _, hv, _ => ⟨List.prefix_refl _, hv, fun _ _ => trivial⟩
  | (b, n) :: r, vs, blk, base, hv, ⟨h1, h2⟩ => by
    simp only [shPtrs]
    obtain ⟨q1, q2, q3⟩ := pushW_ok hv h1
    obtain ⟨p1, p2, p3⟩ := shPtrs_ok q2 h2
    exact ⟨q1.trans p1, p2, fun vf hvf => ⟨q3 vf (p1.trans hvf), p3 vf hvf⟩⟩
theorem shPtrs_ne : ∀ {bs : List (Nat × Nat)} {vs : List View}, bs ≠ [] → (shPtrs bs vs).1 ≠ []
  | [], _, h => absurd rfl h
  | (b, n) :: r, vs, _ => by simp [shPtrs]
theorem ptrRel_small {β : Names} {bs : List (Nat × Nat)} {vs : List View} {y : Value} (hv : ViewsOk β vs) (h : ptrRel β bs y) :
    vs <+: (shPtrs bs vs).2 ∧ ViewsOk β (shPtrs bs vs).2 ∧ ∀ vf, (shPtrs bs vs).2 <+: vf → ptrRel (small β vf) (shPtrs bs vs).1 y := by
  obtain ⟨h1, blk, base, h2, h3⟩ := h
  obtain ⟨p1, p2, p3⟩ := shPtrs_ok hv h3
  exact ⟨p1, p2, fun vf hvf => ⟨shPtrs_ne h1, blk, base, h2, p3 vf hvf⟩⟩
theorem shCaps_ok {β : Names} : ∀ {cs : List (List (Nat × Nat))} {ys : List Value} {vs : List View}, ViewsOk β vs → all2 (ptrRel β) cs ys →
    vs <+: (shCaps cs vs).2 ∧ ViewsOk β (shCaps cs vs).2 ∧ ∀ vf, (shCaps cs vs).2 <+: vf → all2 (ptrRel (small β vf)) (shCaps cs vs).1 ys
  | [], [], vs, hv, _ => ⟨List.prefix_refl _, hv, fun _ _ => trivial⟩
  | c :: cs, y :: ys, vs, hv, ⟨h1, h2⟩ => by
    simp only [shCaps]
    obtain ⟨p1, p2, p3⟩ := ptrRel_small hv h1
    obtain ⟨q1, q2, q3⟩ := shCaps_ok p2 h2
    exact ⟨p1.trans q1, q2, fun vf hvf => ⟨p3 vf (q1.trans hvf), q3 vf hvf⟩⟩
  | [], _ :: _, _, _, h => h.elim
  | _ :: _, [], _, _, h => h.elim
theorem shAV_win {β : Names} {nn : Bool} {b o len : Nat} {cap : Cap} {esz : Nat} {y : Value} {vs : List View} (hv : ViewsOk β vs) (h : (AV.slice nn b o len cap esz).rel1 β y) :
    vs <+: vs ++ [⟨b, o, viewLen len cap esz, false⟩] ∧ ViewsOk β (vs ++ [⟨b, o, viewLen len cap esz, false⟩]) ∧ ∀ vf, vs ++ [⟨b, o, viewLen len cap esz, false⟩] <+: vf → (AV.slice nn vs.length 0 len (viewCap cap) esz).rel1 (small β vf) y := by
  obtain ⟨L, a, c, B, X, hL, rfl, hle, hnn, ha, hcap⟩ := h
  refine ⟨List.prefix_append _ _, ?_, fun vf hvf => ?_⟩
  · intro v hm
    rcases List.mem_append.1 hm with hm | hm
    · exact hv v hm
    · simp at hm; subst hm
      exact ⟨L, hL⟩
  · have hg : vf[vs.length]? = some ⟨b, o, viewLen len cap esz, false⟩ := pre_get hvf (by simp)
    refine ⟨_, a, c, B, X, small_at (β := β) hg hL, rfl, hle, hnn, ha, ?_⟩
    have hsp := capRel_span hle hcap
    cases cap with
    | unk => exact View.loc_span (v := ⟨b, o, _, false⟩) rfl (by simpa using hsp) (by simp [viewLen])
    | whole => exact View.loc_span (v := ⟨b, o, _, false⟩) rfl (by simpa using hsp) (by simp [viewLen])
    | exact c0 => exact ⟨hcap.1, View.loc_span (v := ⟨b, o, _, false⟩) rfl (by simpa using hcap.2) (by simp [viewLen])⟩
theorem shAV_ok {β : Names} {fl : List Bool} {x : AV} {y : Value} {vs : List View} (hv : ViewsOk β vs) (h : x.rel1 β y) :
    vs <+: (shAV fl vs x).2 ∧ ViewsOk β (shAV fl vs x).2 ∧ ∀ vf, (shAV fl vs x).2 <+: vf → (shAV fl vs x).1.rel1 (small β vf) y := by
  cases x <;> simp only [shAV]
  case ptr b o n =>
    obtain ⟨L, B, X, hL, rfl, hin⟩ := h
    refine ⟨List.prefix_append _ _, ?_, fun vf hvf => ?_⟩
    · intro v hm
      rcases List.mem_append.1 hm with hm | hm
      · exact hv v hm
      · simp at hm; subst hm
        exact ⟨L, hL⟩
    · have hg : vf[vs.length]? = some ⟨b, o, n, false⟩ := pre_get hvf (by simp)
      have hs := small_at (β := β) hg hL
      rw [View.loc_lin (v := ⟨b, o, n, false⟩) rfl hin] at hs
      exact ⟨by simp, B, X, rfl, hs, trivial⟩
  case sptr bs => exact ptrRel_small hv h
  case slice nn b o len cap esz =>
    split
    · obtain ⟨L, a, c, B, X, hL, rfl, hle, hnn, ha, hcap⟩ := h
      obtain ⟨q1, q2, q3⟩ := pushW_ok hv hL
      exact ⟨q1, q2, fun vf hvf => ⟨L, a, c, B, X, q3 vf hvf, rfl, hle, hnn, ha, hcap⟩⟩
    · exact shAV_win hv h
  case fn f k caps =>
    obtain ⟨ys, h1, h2⟩ := h
    obtain ⟨p1, p2, p3⟩ := shCaps_ok hv h2
    exact ⟨p1, p2, fun vf hvf => ⟨ys, h1, p3 vf hvf⟩⟩
  case tup xs => exact h.elim
  case mixv xs => exact h.elim
  all_goals exact ⟨List.prefix_refl _, hv, fun _ _ => h⟩
theorem shAVs_ok {β : Names} {fl : List Bool} : ∀ {xs : List AV} {ys : List Value} {vs : List View}, ViewsOk β vs → all2 (AV.rel1 β) xs ys →
    vs <+: (shAVs fl xs vs).2 ∧ ViewsOk β (shAVs fl xs vs).2 ∧ ∀ vf, (shAVs fl xs vs).2 <+: vf → all2 (AV.rel1 (small β vf)) (shAVs fl xs vs).1 ys
  | [], [], vs, hv, _ => ⟨List.prefix_refl _, hv, fun _ _ => trivial⟩
  | x :: xs, y :: ys, vs, hv, ⟨h1, h2⟩ => by
    simp only [shAVs]
    obtain ⟨p1, p2, p3⟩ := shAV_ok (fl := fl) hv h1
    obtain ⟨q1, q2, q3⟩ := shAVs_ok (fl := fl) p2 h2
    exact ⟨p1.trans q1, q2, fun vf hvf => ⟨p3 vf (q1.trans hvf), q3 vf hvf⟩⟩
  | [], _ :: _, _, _, h => h.elim
  | _ :: _, [], _, _, h => h.elim
def SmallBlk (β : Names) (h : Heap) (w : World) (vf : List View) (i : Nat) (x : Blk) : Prop :=
  ∃ v y L, vf[i]? = some v ∧ h[v.b]? = some y ∧ β v.b = some L ∧ y.c ≠ .dead ∧ (x.rw = true → y.rw = true) ∧ x.c ≠ .dead ∧ x.rel (small β vf) (v.loc L) w
theorem avs_vals {β : Names} {L : Loc} {rw : Bool} {us : List AV} {w : World} (h : Blk.rel β L ⟨rw, .avs us⟩ w) : ∃ ys : List Value, all2 (AV.rel1 β) us ys ∧ ∀ i B X, L.pl i = some (B, X) → ∃ y, ys[i]? = some y ∧ w.cell? ⟨B, X, none⟩ = some y := by
  have key : ∀ (vs : List AV) (o : Nat), (∀ (i : Nat) (v : AV), vs[i]? = some v → ∃ B X u, L.pl (o + i) = some (B, X) ∧ w.cell? ⟨B, X, none⟩ = some u ∧ v.rel1 β u) →
      ∃ ys : List Value, all2 (AV.rel1 β) vs ys ∧ ∀ i y, ys[i]? = some y → ∃ B X, L.pl (o + i) = some (B, X) ∧ w.cell? ⟨B, X, none⟩ = some y := by
    intro vs
    induction vs with
    | nil => intro o _; exact ⟨[], trivial, by simp⟩
    | cons u vs ih =>
      intro o h
      obtain ⟨B, X, y, h1, h2, h3⟩ := h 0 u rfl
      obtain ⟨ys, h4, h5⟩ := ih (o + 1) (fun i v hv => by
        have := h (i + 1) v (by simpa using hv)
        rw [show o + (i + 1) = o + 1 + i by omega] at this
        exact this)
      refine ⟨y :: ys, ⟨h3, h4⟩, fun i z hz => ?_⟩
      cases i with
      | zero => simp at hz; subst hz; exact ⟨B, X, h1, h2⟩
      | succ i =>
        have := h5 i z (by simpa using hz)
        rw [show o + 1 + i = o + (i + 1) by omega] at this
        exact this
  obtain ⟨ys, h1, h2⟩ := key us 0 (fun i v hv => by
    obtain ⟨B, X, hp⟩ := h.cont.1 i (List.getElem?_eq_some_iff.1 hv).1
    obtain ⟨v', u, e1, e2, e3⟩ := h.cont.2 i B X hp
    rw [hv] at e1; cases e1
    exact ⟨B, X, u, by rw [Nat.zero_add]; exact hp, e2, e3⟩)
  refine ⟨ys, h1, fun i B X hp => ?_⟩
  obtain ⟨v, u, e1, e2, _⟩ := h.cont.2 i B X hp
  obtain ⟨y, e4, _⟩ := all2_get h1 e1
  obtain ⟨B', X', e5, e6⟩ := h2 i y e4
  rw [Nat.zero_add, hp] at e5
  cases e5
  exact ⟨y, e4, e6⟩
theorem hdr_window {β γ : Names} {p j o : Nat} {of ln : Nat → Nat} {cp : Option (Nat → Nat)} {M : Loc} (hM : β p = some M) (hj : γ j = some M) {i : Nat} {u : Value} (h : (hdrAV p of ln cp (o + i)).rel1 β u) : (hdrAV j (offN o of) (offN o ln) (offC o cp) i).rel1 γ u := by
  obtain ⟨M', a, c, B', X', hM', rfl, hle, hnn, ha, hcap⟩ := h
  rw [hM] at hM'; cases hM'
  refine ⟨M, a, c, B', X', hj, rfl, hle, hnn, ha, ?_⟩
  cases cp <;> exact hcap
theorem hdr_moved {β γ : Names} {p j : Nat} {of ln : Nat → Nat} {cp : Option (Nat → Nat)} {M : Loc} (hM : β p = some M) (hj : γ j = some M) {i : Nat} {u : Value} (h : (hdrAV p of ln cp i).rel1 β u) : (hdrAV j of ln cp i).rel1 γ u := by
  obtain ⟨M', a, c, B', X', hM', rfl, hle, hnn, ha, hcap⟩ := h
  rw [hM] at hM'; cases hM'
  exact ⟨M, a, c, B', X', hj, rfl, hle, hnn, ha, hcap⟩
theorem shHeap_ok {β : Names} {fl : List Bool} {h : Heap} {w : World} (hr : HRel β h w) : ∀ {fuel i : Nat} {vs vf : List View} {acc sh : List Blk}, shHeap fl h fuel i vs acc = some (sh, vf) → ViewsOk β vs → acc.length = i →
    (∀ vg, vs <+: vg → ∀ j x, acc[j]? = some x → SmallBlk β h w vg j x) →
    vs <+: vf ∧ ViewsOk β vf ∧ sh.length = vf.length ∧ ∀ j x, sh[j]? = some x → SmallBlk β h w vf j x
  | 0, _, _, _, _, _, hs, _, _, _ => by simp [shHeap] at hs
  | fuel + 1, i, vs, vf, acc, sh, hs, hv, hl, hacc => by
    simp only [shHeap] at hs
    split at hs
    · rename_i hnone
      obtain ⟨rfl, rfl⟩ : acc = sh ∧ vs = vf := by simpa using hs
      have hle : vs.length ≤ acc.length := by rw [hl]; simpa using hnone
      refine ⟨List.prefix_refl _, hv, ?_, hacc vs (List.prefix_refl _)⟩
      rcases Nat.lt_or_ge vs.length acc.length with hlt | hge
      · obtain ⟨v, _, _, h1, _⟩ := hacc vs (List.prefix_refl _) vs.length (acc[vs.length]'hlt) (List.getElem?_eq_getElem hlt)
        simp at h1
      · omega
    · rename_i v hvi
      obtain ⟨L, hL⟩ := hv v (List.mem_of_getElem? hvi)
      have put : ∀ {vs' : List View} {x : Blk}, vs <+: vs' → (∀ vg, vs' <+: vg → SmallBlk β h w vg i x) → ∀ vg, vs' <+: vg → ∀ j y, (acc ++ [x])[j]? = some y → SmallBlk β h w vg j y := by
        intro vs' x hp hx vg hvg j y hy
        rcases Nat.lt_or_ge j acc.length with hlt | hge
        · rw [List.getElem?_append_left hlt] at hy
          exact hacc vg (hp.trans hvg) j y hy
        · rw [List.getElem?_append_right hge] at hy
          have hj : j = i := by
            have := (List.getElem?_eq_some_iff.1 hy).1
            simp at this; omega
          subst hj
          rw [hl] at hy
          simp at hy; subst hy
          exact hx vg hvg
      split at hs
      · rename_i rw m f hb
        obtain ⟨L', hL', hrel⟩ := hr.blk v.b _ hb (by simp)
        rw [hL] at hL'; cases hL'
        refine shHeap_ok hr hs hv (by simp [hl]) (put (List.prefix_refl _) fun vg hvg => ?_)
        refine ⟨v, _, L, pre_get hvg hvi, hb, hL, by simp, fun e => by simp at e; exact e.1, by simp, ⟨fun _ B X ho => ?_, fun j B X hp => ?_⟩⟩
        · obtain ⟨h1, h2⟩ := hrel.cells (by simp) B X (View.loc_own ho)
          exact ⟨h1, fun e => h2 (by simp at e; exact e.1)⟩
        · cases hw : v.whole with
          | true =>
            rw [View.loc_whole hw] at hp
            simp only [if_true]
            exact hrel.cont j B X hp
          | false =>
            simp only [Bool.false_eq_true, if_false]
            rw [FK.at_off]
            exact hrel.cont _ B X ((View.loc_pl hw).1 hp).2
      · rename_i rw p m q of ln cp hb
        obtain ⟨L', hL', hrel⟩ := hr.blk v.b _ hb (by simp)
        rw [hL] at hL'; cases hL'
        obtain ⟨⟨M, hM, hq⟩, hcont⟩ := hrel.cont
        obtain ⟨p1, p2, p3⟩ := pushW_ok hv hM
        split at hs
        · rename_i hw
          obtain ⟨q1, q2, q3, q4⟩ := shHeap_ok hr hs p2 (by simp [hl]) (put p1 fun vg hvg => by
            refine ⟨v, _, L, pre_get (p1.trans hvg) hvi, hb, hL, by simp, fun e => by simp at e; exact e.1, by simp, ⟨fun _ B X ho => ?_, ⟨M, p3 vg hvg, hq⟩, fun j B X hp => ?_⟩⟩
            · obtain ⟨h1, h2⟩ := hrel.cells (by simp) B X (View.loc_own ho)
              exact ⟨h1, fun e => h2 (by simp at e; exact e.1)⟩
            · rw [View.loc_whole hw] at hp
              obtain ⟨u, h1, h2⟩ := hcont _ B X hp
              exact ⟨u, h1, hdr_moved hM (p3 vg hvg) h2⟩)
          exact ⟨p1.trans q1, q2, q3, q4⟩
        · rename_i hw
          have hw : v.whole = false := by simpa using hw
          obtain ⟨q1, q2, q3, q4⟩ := shHeap_ok hr hs p2 (by simp [hl]) (put p1 fun vg hvg => by
            refine ⟨v, _, L, pre_get (p1.trans hvg) hvi, hb, hL, by simp, fun e => by simp at e; exact e.1, by simp, ⟨fun _ B X ho => ?_, ⟨M, p3 vg hvg, hq⟩, fun j B X hp => ?_⟩⟩
            · obtain ⟨h1, h2⟩ := hrel.cells (by simp) B X (View.loc_own ho)
              exact ⟨h1, fun e => h2 (by simp at e; exact e.1)⟩
            · obtain ⟨u, h1, h2⟩ := hcont _ B X ((View.loc_pl hw).1 hp).2
              exact ⟨u, h1, hdr_window hM (p3 vg hvg) h2⟩)
          exact ⟨p1.trans q1, q2, q3, q4⟩
      · rename_i rw us hb
        split at hs
        · rename_i hw
          obtain ⟨L', hL', hrel⟩ := hr.blk v.b _ hb (by simp)
          rw [hL] at hL'; cases hL'
          obtain ⟨ys, hys, hcells⟩ := avs_vals hrel
          obtain ⟨p1, p2, p3⟩ := shAVs_ok (fl := fl) hv hys
          obtain ⟨q1, q2, q3, q4⟩ := shHeap_ok hr hs p2 (by simp [hl]) (put p1 fun vg hvg => by
            have hall := p3 vg hvg
            refine ⟨v, _, L, pre_get (p1.trans hvg) hvi, hb, hL, by simp, fun e => by simp at e; exact e.1, by simp, ?_⟩
            rw [View.loc_whole hw]
            refine ⟨fun _ B X ho => ?_, fun j hj => ?_, fun j B X hp => ?_⟩
            · obtain ⟨h1, h2⟩ := hrel.cells (by simp) B X ho
              exact ⟨h1, fun e => h2 (by simp at e; exact e.1)⟩
            · exact hrel.cont.1 j (by have e1 := all2_length hall; have e2 := all2_length hys; omega)
            · obtain ⟨y, hy, hc⟩ := hcells j B X hp
              have hlt : j < (shAVs fl us vs).1.length := by
                have e1 := all2_length hall
                have := (List.getElem?_eq_some_iff.1 hy).1
                omega
              obtain ⟨y', hy', hyr⟩ := all2_get hall (List.getElem?_eq_getElem hlt)
              rw [hy] at hy'; cases hy'
              exact ⟨_, y, List.getElem?_eq_getElem hlt, hc, hyr⟩)
          exact ⟨p1.trans q1, q2, q3, q4⟩
        · cases hs
      · cases hs
def apartOk (vs : List View) (sh : List Blk) : Bool :=
  (List.range vs.length).all fun i => (List.range vs.length).all fun j => i == j || !((sh[i]?.map (·.rw)).getD false) || (vs[i]?.map (·.b)) != (vs[j]?.map (·.b))
theorem apartOk_at {vs : List View} {sh : List Blk} (h : apartOk vs sh = true) {i j : Nat} {x : Blk} {v u : View} (hi : vs[i]? = some v) (hj : vs[j]? = some u) (hx : sh[i]? = some x) (hrw : x.rw = true) (hne : i ≠ j) : v.b ≠ u.b := by
  unfold apartOk at h
  simp only [List.all_eq_true, List.mem_range] at h
  have := h i (List.getElem?_eq_some_iff.1 hi).1 j (List.getElem?_eq_some_iff.1 hj).1
  simp [hi, hj, hx, hrw, hne] at this
  exact this
theorem small_rel {β : Names} {h : Heap} {w : World} (hr : HRel β h w) {vf : List View} {sh : List Blk} (hl : sh.length = vf.length) (hs : ∀ j x, sh[j]? = some x → SmallBlk β h w vf j x) (ha : apartOk vf sh = true) : HRel (small β vf) sh w where
  blk := by
    intro b x hx _
    obtain ⟨v, y, L, h1, _, h3, _, _, _, h6⟩ := hs b x hx
    exact ⟨_, small_at h1 h3, h6⟩
  disj := by
    intro b c x z M N B X hne hx hz hM hN hrw _ _ ho ho'
    obtain ⟨v, y, L, h1, h2, h3, h4, h5, _, _⟩ := hs b x hx
    obtain ⟨v', y', L', h1', h2', h3', h4', _, _, _⟩ := hs c z hz
    rw [small_at h1 h3] at hM; cases hM
    rw [small_at h1' h3'] at hN; cases hN
    have hb := apartOk_at ha h1 h1' hx hrw hne
    exact hr.disj v.b v'.b y y' L L' B X hb h2 h2' h3 h3' (h5 hrw) h4 h4' (View.loc_own ho) (View.loc_own ho')
  inj := by
    intro b x M hx hM hrw _
    obtain ⟨v, y, L, h1, h2, h3, h4, h5, _, _⟩ := hs b x hx
    rw [small_at h1 h3] at hM; cases hM
    exact View.loc_inj (hr.inj v.b y L h2 h3 (h5 hrw) h4)
  fresh := by
    intro b hb
    have : vf[b]? = none := by simp; omega
    simp [small, this]
  glob := hr.glob
  gap := by
    intro b x M B X hx hrw _ hM ho
    obtain ⟨v, y, L, h1, h2, h3, h4, h5, _, _⟩ := hs b x hx
    rw [small_at h1 h3] at hM; cases hM
    exact hr.gap v.b y L B X h2 (h5 hrw) h4 h3 (View.loc_own ho)
theorem small_mine {β : Names} {h : Heap} {w : World} {vf : List View} {sh : List Blk} (hs : ∀ j x, sh[j]? = some x → SmallBlk β h w vf j x) (a : Addr) (hm : Mine (small β vf) sh a) :
    ∃ (i : Nat) (x : Blk) (v : View) (y : Blk) (L : Loc), sh[i]? = some x ∧ x.rw = true ∧ vf[i]? = some v ∧ h[v.b]? = some y ∧ y.rw = true ∧ β v.b = some L ∧ y.c ≠ .dead ∧ (v.loc L).own a.block a.off := by
  obtain ⟨b, x, M, hx, hrw, _, hM, ho⟩ := hm
  obtain ⟨v, y, L, h3, h4, h5, h6, h7, _, _⟩ := hs b x hx
  rw [small_at h3 h5] at hM; cases hM
  exact ⟨b, x, v, y, L, hx, hrw, h3, h4, (h7 hrw), h5, h6, ho⟩
end Go.Proofs.YtoeailachidcdaaGreatDoor.Hg
