import Derived.Test.YtoeailachidcdaaGreatDoorHgCall
namespace Go.Proofs.YtoeailachidcdaaGreatDoor.Hg
set_option linter.unusedVariables false
set_option linter.unusedSimpArgs false
set_option linter.unusedSectionVars false
open Go Go.RowKit
variable [Gl : Glob]
def bkId (vs : List View) (base i : Nat) : Option Nat := match vs[i]? with
  | some v => if v.whole = true then some v.b else none
  | none => some (base + (i - vs.length))
def bkPtrs (vs : List View) (base : Nat) : List (Nat × Nat) → Option (List (Nat × Nat))
  | [] => some []
  | (i, n) :: r => match bkId vs base i, bkPtrs vs base r with
    | some c, some r' => some ((c, n) :: r')
    | _, _ => none
def bkCaps (vs : List View) (base : Nat) : List (List (Nat × Nat)) → Option (List (List (Nat × Nat)))
  | [] => some []
  | c :: r => match bkPtrs vs base c, bkCaps vs base r with
    | some c', some r' => some (c' :: r')
    | _, _ => none
def bk1 (vs : List View) (base : Nat) : AV → Option AV
  | .ptr i o n => (match vs[i]? with
    | some v => if v.whole = true then some (.ptr v.b o n) else some (.ptr v.b (v.o + o) n)
    | none => some (.ptr (base + (i - vs.length)) o n))
  | .sptr bs => (match bkPtrs vs base bs with | some x => some (.sptr x) | none => none)
  | .slice nn i o len cap esz => (match vs[i]? with
    | some v => if v.whole = true then some (.slice nn v.b o len cap esz) else (match cap with | .whole => none | cap => some (.slice nn v.b (v.o + o) len cap esz))
    | none => some (.slice nn (base + (i - vs.length)) o len cap esz))
  | .fn f k caps => (match bkCaps vs base caps with | some x => some (.fn f k x) | none => none)
  | .tup _ => none
  | .mixv _ => none
  | v => some v
def bkList (vs : List View) (base : Nat) : List AV → Option (List AV)
  | [] => some []
  | a :: r => match bk1 vs base a, bkList vs base r with
    | some a', some r' => some (a' :: r')
    | _, _ => none
def bkAV (vs : List View) (base : Nat) : AV → Option AV
  | .tup xs => (match bkList vs base xs with | some x => some (.tup x) | none => none)
  | v => bk1 vs base v
def bkCont (vs : List View) (base : Nat) : Cont → Option Cont
  | .avs us => (match bkList vs base us with | some us' => some (.avs us') | none => none)
  | .hdr p n q of ln cp => (match bkId vs base p with | some c => some (.hdr c n q of ln cp) | none => none)
  | c => some c
def bkBlks (vs : List View) (base : Nat) : List Blk → Option (List Blk)
  | [] => some []
  | x :: r => (match bkCont vs base x.c, bkBlks vs base r with
    | some c, some r' => some (⟨x.rw, c⟩ :: r')
    | _, _ => none)
def bigN (β γ : Names) (n m : Nat) : Names := fun b => if b < n then β b else γ (m + (b - n))
section
variable {β γ : Names} {n : Nat} {vs : List View} (hγ : ∀ i, i < vs.length → γ i = small β vs i) (hv : ViewsOk β vs) (hf : ∀ b, n ≤ b → β b = none)
include hv hf in
theorem view_lt {i : Nat} {v : View} (hi : vs[i]? = some v) : v.b < n := by
  obtain ⟨L, hL⟩ := hv v (List.mem_of_getElem? hi)
  rcases Nat.lt_or_ge v.b n with h | h
  · exact h
  · rw [hf _ h] at hL; cases hL
include hγ in
theorem gamma_at {i : Nat} {v : View} {L : Loc} (hi : vs[i]? = some v) (hL : β v.b = some L) : γ i = some (v.loc L) := by
  rw [hγ i (List.getElem?_eq_some_iff.1 hi).1]
  exact small_at hi hL
theorem big_new {i : Nat} (hi : vs[i]? = none) : bigN β γ n vs.length (n + (i - vs.length)) = γ i := by
  have : vs.length ≤ i := by simpa using hi
  unfold bigN
  rw [if_neg (by omega)]
  congr 1; omega
include hγ hv hf in
theorem bkId_ok {i c : Nat} {L : Loc} (h : bkId vs n i = some c) (hi : γ i = some L) : bigN β γ n vs.length c = some L := by
  unfold bkId at h
  split at h
  · rename_i v hvi
    split at h
    · rename_i hw
      cases h
      obtain ⟨M, hM⟩ := hv v (List.mem_of_getElem? hvi)
      have hg := gamma_at hγ hvi hM
      rw [hi, View.loc_whole hw] at hg
      unfold bigN
      rw [if_pos (view_lt hv hf hvi), hM, hg]
    · cases h
  · rename_i hvi
    cases h
    rw [big_new hvi]; exact hi
include hγ hv hf in
theorem bkPtrs_ok : ∀ {bs bs' : List (Nat × Nat)} {blk base : Nat}, bkPtrs vs n bs = some bs' → chained γ blk base bs → chained (bigN β γ n vs.length) blk base bs'
  | [], _, _, _, h, _ => by simp [bkPtrs] at h; subst h; trivial
  | (i, k) :: r, bs', blk, base, h, ⟨h1, h2⟩ => by
    simp only [bkPtrs] at h
    split at h
    · rename_i c r' hc hr'
      cases h
      exact ⟨bkId_ok hγ hv hf hc h1, bkPtrs_ok hr' h2⟩
    · cases h
theorem bkPtrs_ne : ∀ {bs bs' : List (Nat × Nat)}, bkPtrs vs n bs = some bs' → bs ≠ [] → bs' ≠ []
  | [], _, _, h => absurd rfl h
  | (i, k) :: r, bs', h, _ => by
    simp only [bkPtrs] at h
    split at h
    · cases h; simp
    · cases h
include hγ hv hf in
theorem bkPtr_rel {bs bs' : List (Nat × Nat)} {y : Value} (h : bkPtrs vs n bs = some bs') (r : ptrRel γ bs y) : ptrRel (bigN β γ n vs.length) bs' y := by
  obtain ⟨h1, blk, base, h2, h3⟩ := r
  exact ⟨bkPtrs_ne h h1, blk, base, h2, bkPtrs_ok hγ hv hf h h3⟩
include hγ hv hf in
theorem bkCaps_ok : ∀ {cs cs' : List (List (Nat × Nat))} {ys : List Value}, bkCaps vs n cs = some cs' → all2 (ptrRel γ) cs ys → all2 (ptrRel (bigN β γ n vs.length)) cs' ys
  | [], _, [], h, _ => by simp [bkCaps] at h; subst h; trivial
  | c :: cs, cs', y :: ys, h, ⟨h1, h2⟩ => by
    simp only [bkCaps] at h
    split at h
    · rename_i c' r' hc hr'
      cases h
      exact ⟨bkPtr_rel hγ hv hf hc h1, bkCaps_ok hr' h2⟩
    · cases h
  | [], _, _ :: _, _, h => h.elim
  | _ :: _, _, [], _, h => h.elim
include hγ hv hf in
theorem bk1_ok {x x' : AV} {y : Value} (h : bk1 vs n x = some x') (r : x.rel1 γ y) : x'.rel1 (bigN β γ n vs.length) y := by
  cases x <;> simp only [bk1] at h
  case ptr i o k =>
    obtain ⟨M, B, X, hM, rfl, hin⟩ := r
    split at h
    · rename_i v hvi
      obtain ⟨L, hL⟩ := hv v (List.mem_of_getElem? hvi)
      have hg := gamma_at hγ hvi hL
      rw [hM] at hg; cases hg
      have hb : bigN β γ n vs.length v.b = some L := by unfold bigN; rw [if_pos (view_lt hv hf hvi)]; exact hL
      split at h
      · rename_i hw
        cases h
        rw [View.loc_whole hw] at hin
        exact ⟨L, B, X, hb, rfl, hin⟩
      · rename_i hw
        cases h
        exact ⟨L, B, X, hb, rfl, fun j hj => by
          have := ((View.loc_pl (by simpa using hw)).1 (hin j hj)).2
          rw [← Nat.add_assoc] at this; exact this⟩
    · rename_i hvi
      cases h
      exact ⟨M, B, X, by rw [big_new hvi]; exact hM, rfl, hin⟩
  case sptr bs =>
    split at h
    · rename_i x hx
      cases h
      exact bkPtr_rel hγ hv hf hx r
    · cases h
  case slice nn i o len cap esz =>
    obtain ⟨M, a, c, B, X, hM, rfl, hle, hnn, ha, hcap⟩ := r
    split at h
    · rename_i v hvi
      obtain ⟨L, hL⟩ := hv v (List.mem_of_getElem? hvi)
      have hg := gamma_at hγ hvi hL
      rw [hM] at hg; cases hg
      have hb : bigN β γ n vs.length v.b = some L := by unfold bigN; rw [if_pos (view_lt hv hf hvi)]; exact hL
      split at h
      · rename_i hw
        cases h
        rw [View.loc_whole hw] at hcap
        exact ⟨L, a, c, B, X, hb, rfl, hle, hnn, ha, hcap⟩
      · rename_i hw
        have sub : ∀ {m : Nat}, (v.loc L).span o m B X → L.span (v.o + o) m B X := fun hs j hj => by
          have := ((View.loc_pl (by simpa using hw)).1 (hs j hj)).2
          rw [← Nat.add_assoc] at this; exact this
        cases cap with
        | whole => cases h
        | unk => cases h; exact ⟨L, a, c, B, X, hb, rfl, hle, hnn, ha, sub hcap⟩
        | exact c0 => cases h; exact ⟨L, a, c, B, X, hb, rfl, hle, hnn, ha, hcap.1, sub hcap.2⟩
    · rename_i hvi
      cases h
      exact ⟨M, a, c, B, X, by rw [big_new hvi]; exact hM, rfl, hle, hnn, ha, hcap⟩
  case fn f k caps =>
    obtain ⟨ys, h1, h2⟩ := r
    split at h
    · rename_i x hx
      cases h
      exact ⟨ys, h1, bkCaps_ok hγ hv hf hx h2⟩
    · cases h
  case tup => cases h
  case mixv => cases h
  all_goals (cases h; exact r)
include hγ hv hf in
theorem bkList_ok : ∀ {xs xs' : List AV} {ys : List Value}, bkList vs n xs = some xs' → all2 (AV.rel1 γ) xs ys → all2 (AV.rel1 (bigN β γ n vs.length)) xs' ys
  | [], _, [], h, _ => by simp [bkList] at h; subst h; trivial
  | c :: cs, cs', y :: ys, h, ⟨h1, h2⟩ => by
    simp only [bkList] at h
    split at h
    · rename_i c' r' hc hr'
      cases h
      exact ⟨bk1_ok hγ hv hf hc h1, bkList_ok hr' h2⟩
    · cases h
  | [], _, _ :: _, _, h => h.elim
  | _ :: _, _, [], _, h => h.elim
include hγ hv hf in
theorem bkAV_ok {x x' : AV} {y : Value} (h : bkAV vs n x = some x') (r : x.rel γ y) : x'.rel (bigN β γ n vs.length) y := by
  cases x
  case tup xs =>
    simp only [bkAV] at h
    split at h
    · rename_i xs' hx
      cases h
      obtain ⟨ys, h1, h2⟩ := r
      exact ⟨ys, h1, bkList_ok hγ hv hf hx h2⟩
    · cases h
  case mixv => simp [bkAV, bk1] at h
  all_goals
    simp only [bkAV] at h
    simp only [AV.rel] at r
    exact rel_of_rel1 (bk1_ok hγ hv hf h r)
include hγ hv hf in
theorem bkAvs_rel {us us' : List AV} {L : Loc} {rw rw' : Bool} {w : World} (h : bkList vs n us = some us') (r : Blk.rel γ L ⟨rw, .avs us⟩ w) (hrw : rw' = true → rw = true) : Blk.rel (bigN β γ n vs.length) L ⟨rw', .avs us'⟩ w := by
  obtain ⟨ys, h1, h2⟩ := avs_vals r
  have h3 := bkList_ok hγ hv hf h h1
  have e1 := all2_length h1
  have e2 := all2_length h3
  refine ⟨fun _ B X ho => ?_, fun i hi => r.cont.1 i (by omega), fun i B X hp => ?_⟩
  · obtain ⟨c1, c2⟩ := r.cells (by simp) B X ho
    exact ⟨c1, fun e => c2 (hrw e)⟩
  · obtain ⟨y, hy, hc⟩ := h2 i B X hp
    have hlt : i < us'.length := by have := (List.getElem?_eq_some_iff.1 hy).1; omega
    obtain ⟨y', hy', hr⟩ := all2_get h3 (List.getElem?_eq_getElem hlt)
    rw [hy] at hy'; cases hy'
    exact ⟨_, y, List.getElem?_eq_getElem hlt, hc, hr⟩
end
section
variable {β γ : Names} {n : Nat} {vs : List View} (hγ : ∀ i, i < vs.length → γ i = small β vs i) (hv : ViewsOk β vs) (hf : ∀ b, n ≤ b → β b = none)
include hγ hv hf in
theorem bkCont_rel {c c' : Cont} {L : Loc} {rw rw' : Bool} {w : World} (h : bkCont vs n c = some c') (r : Blk.rel γ L ⟨rw, c⟩ w) (hrw : rw' = true → rw = true) : Blk.rel (bigN β γ n vs.length) L ⟨rw', c'⟩ w ∧ (c' = .dead ↔ c = .dead) := by
  have hc : c ≠ .dead → ∀ B X, L.own B X → (w.cell? ⟨B, X, none⟩).isSome = true ∧ (rw' = true → w.frozen? ⟨B, X, none⟩ = false) := fun hd B X ho => by
    obtain ⟨c1, c2⟩ := r.cells hd B X ho
    exact ⟨c1, fun e => c2 (hrw e)⟩
  cases c with
  | flat m f => cases h; exact ⟨⟨fun _ => hc (by simp), r.cont⟩, by simp⟩
  | dead => cases h; exact ⟨⟨fun h => absurd rfl h, trivial⟩, by simp⟩
  | avs us =>
    simp only [bkCont] at h
    split at h
    · rename_i us' hu
      cases h
      exact ⟨bkAvs_rel hγ hv hf hu r hrw, by simp⟩
    · cases h
  | hdr p m q of ln cp =>
    simp only [bkCont] at h
    split at h
    · rename_i p' hp
      cases h
      obtain ⟨⟨M, hM, hq⟩, hcont⟩ := r.cont
      have hM' := bkId_ok hγ hv hf hp hM
      refine ⟨⟨fun _ => hc (by simp), ⟨M, hM', hq⟩, fun i B X hp => ?_⟩, by simp⟩
      obtain ⟨u, h1, h2⟩ := hcont i B X hp
      exact ⟨u, h1, hdr_moved hM hM' h2⟩
    · cases h
end
def layC (vs0 : List View) (base : Nat) (v : View) (y : Cont) (c : Cont) : Option Cont :=
  if v.whole = true then bkCont vs0 base c else match y, c with
    | _, .dead => some .dead
    | .flat m f, .flat _ f' => (match f.updN v.o v.n f' with | some r => some (.flat m r) | none => none)
    | _, _ => none
def wback (vs0 : List View) (base : Nat) : List View → List Blk → List Blk → Heap → Option Heap
  | [], _, _, h => some h
  | v :: vs, x :: xs, x' :: xs', h =>
    if x.rw = true then
      (match h[v.b]? with
      | some y => (match layC vs0 base v y.c x'.c with | some c => wback vs0 base vs xs xs' (h.set v.b ⟨true, c⟩) | none => none)
      | none => none)
    else wback vs0 base vs xs xs' h
  | _ :: _, _, _, _ => none
def Written (vs0 : List View) (base : Nat) (v : View) (y x' z : Blk) : Prop := ∃ c, layC vs0 base v y.c x'.c = some c ∧ z = ⟨true, c⟩
theorem wback_ok {vs0 : List View} {base : Nat} : ∀ {vs : List View} {xs xs' : List Blk} {h h' : Heap}, wback vs0 base vs xs xs' h = some h' → xs.length = vs.length →
    (∀ (i j : Nat) (v u : View) (x : Blk), vs[i]? = some v → vs[j]? = some u → xs[i]? = some x → x.rw = true → i ≠ j → v.b ≠ u.b) →
    h'.length = h.length ∧ (∀ b, (∀ (j : Nat) (v : View) (x : Blk), vs[j]? = some v → xs[j]? = some x → x.rw = true → v.b ≠ b) → h'[b]? = h[b]?) ∧
      ∀ (j : Nat) (v : View) (x : Blk), vs[j]? = some v → xs[j]? = some x → x.rw = true → ∃ x' y z, xs'[j]? = some x' ∧ h[v.b]? = some y ∧ h'[v.b]? = some z ∧ Written vs0 base v y x' z
  | [], xs, xs', h, h', hw, _, _ => by simp [wback] at hw; subst hw; exact ⟨rfl, fun _ _ => rfl, by simp⟩
  | v :: vs, [], _, _, _, _, hl, _ => by simp at hl
  | v :: vs, x :: xs, [], h, h', hw, _, _ => by simp [wback] at hw
  | v :: vs, x :: xs, x' :: xs', h, h', hw, hl, hd => by
    have hd' : ∀ (i j : Nat) (v u : View) (x : Blk), vs[i]? = some v → vs[j]? = some u → xs[i]? = some x → x.rw = true → i ≠ j → v.b ≠ u.b :=
      fun i j a b c h1 h2 h3 h4 h5 => hd (i + 1) (j + 1) a b c (by simpa using h1) (by simpa using h2) (by simpa using h3) h4 (by omega)
    have hl' : xs.length = vs.length := by simpa using hl
    simp only [wback] at hw
    have step : ∀ z, x.rw = true → (∃ y, h[v.b]? = some y ∧ Written vs0 base v y x' z) → wback vs0 base vs xs xs' (h.set v.b z) = some h' →
        h'.length = h.length ∧ (∀ b, (∀ (j : Nat) (u : View) (y : Blk), (v :: vs)[j]? = some u → (x :: xs)[j]? = some y → y.rw = true → u.b ≠ b) → h'[b]? = h[b]?) ∧
        ∀ (j : Nat) (u : View) (y : Blk), (v :: vs)[j]? = some u → (x :: xs)[j]? = some y → y.rw = true → ∃ x'' y z, (x' :: xs')[j]? = some x'' ∧ h[u.b]? = some y ∧ h'[u.b]? = some z ∧ Written vs0 base u y x'' z := by
      intro z hrw hy hz
      obtain ⟨y, hy, hwr⟩ := hy
      obtain ⟨h1, h2, h3⟩ := wback_ok hz hl' hd'
      refine ⟨by simpa using h1, fun b hb => ?_, fun j u q hu hq hqrw => ?_⟩
      · rw [h2 b (fun j u q a b c => hb (j + 1) u q (by simpa using a) (by simpa using b) c)]
        exact List.getElem?_set_ne (hb 0 v x rfl rfl hrw)
      · cases j with
        | zero =>
          simp at hu hq; subst hu; subst hq
          refine ⟨x', y, z, rfl, hy, ?_, hwr⟩
          rw [h2 v.b (fun j u q a b c => (hd 0 (j + 1) v u x rfl (by simpa using a) rfl hrw (by omega)).symm)]
          exact List.getElem?_set_self (List.getElem?_eq_some_iff.1 hy).1
        | succ j =>
          obtain ⟨x'', y', z', e1, e2, e3, e4⟩ := h3 j u q (by simpa using hu) (by simpa using hq) hqrw
          have hne := hd (j + 1) 0 u v q hu rfl hq hqrw (by omega)
          rw [List.getElem?_set_ne (fun e => hne e.symm)] at e2
          exact ⟨x'', y', z', by simpa using e1, e2, e3, e4⟩
    split at hw
    · rename_i hrw
      split at hw
      · rename_i y hy
        split at hw
        · rename_i c hc
          exact step _ hrw ⟨_, hy, c, hc, rfl⟩ hw
        · cases hw
      · cases hw
    · rename_i hrw
      obtain ⟨h1, h2, h3⟩ := wback_ok hw hl' hd'
      refine ⟨h1, fun b hb => h2 b (fun j u q a b c => hb (j + 1) u q (by simpa using a) (by simpa using b) c), fun j u q hu hq hqrw => ?_⟩
      cases j with
      | zero => simp at hu hq; subst hq; exact absurd hqrw hrw
      | succ j =>
        obtain ⟨x'', y', z', e1, e2⟩ := h3 j u q (by simpa using hu) (by simpa using hq) hqrw
        exact ⟨x'', y', z', by simpa using e1, e2⟩
theorem wback_quiet {vs0 : List View} {base : Nat} : ∀ {vs : List View} {xs xs' : List Blk} {h h' : Heap}, wback vs0 base vs xs xs' h = some h' → (∀ x ∈ xs, x.rw = false) → h' = h
  | [], _, _, _, _, hw, _ => by simp [wback] at hw; exact hw.symm
  | v :: vs, [], _, _, _, hw, _ => by simp [wback] at hw
  | v :: vs, x :: xs, [], h, h', hw, _ => by simp [wback] at hw
  | v :: vs, x :: xs, x' :: xs', h, h', hw, hx => by
    simp only [wback] at hw
    rw [if_neg (by rw [hx x (by simp)]; simp)] at hw
    exact wback_quiet hw fun y hy => hx y (by simp [hy])
def BkBlk (vs : List View) (base : Nat) (x y : Blk) : Prop := x.rw = y.rw ∧ bkCont vs base x.c = some y.c
theorem bkBlks_at {vs : List View} {base : Nat} : ∀ {xs ys : List Blk}, bkBlks vs base xs = some ys → ys.length = xs.length ∧ ∀ (i : Nat) (y : Blk), ys[i]? = some y → ∃ x : Blk, xs[i]? = some x ∧ BkBlk vs base x y
  | [], ys, h => by simp [bkBlks] at h; subst h; exact ⟨rfl, by simp⟩
  | x :: xs, ys, h => by
    simp only [bkBlks] at h
    split at h
    · rename_i c r' hc hr
      cases h
      obtain ⟨h3, h4⟩ := bkBlks_at hr
      refine ⟨by simp [h3], fun i z hz => ?_⟩
      cases i with
      | zero => simp at hz; subst hz; exact ⟨_, rfl, rfl, hc⟩
      | succ i => obtain ⟨x, e1, e2⟩ := h4 i z (by simpa using hz); exact ⟨x, by simpa using e1, e2⟩
    · cases h
end Go.Proofs.YtoeailachidcdaaGreatDoor.Hg
