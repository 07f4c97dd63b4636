/- Behind a call: what the callee wrote and made, in the caller's memory. -/
import Derived.Test.YtjnfeffflkgddaaHxCall
namespace Go.Proofs.Ytjnfeffflkgddaa.Hx
set_option linter.unusedVariables false
set_option linter.unusedSimpArgs false
open Go Go.RowKit

def bkPtrs (vs : List View) (base : Nat) : List (Nat × Nat) → Option (List (Nat × Nat))
  | [] => some []
  | (i, n) :: r => match bkPtrs vs base r with
    | none => none
    | some r' => match vs[i]? with
      | some v => if v.whole = true then some ((v.b, n) :: r') else none
      | none => some ((base + (i - vs.length), n) :: r')

def bkCaps (vs : List View) (base : Nat) : List (List (Nat × Nat)) → Option (List (List (Nat × Nat)))
  | [] => some []
  | c :: r => match bkPtrs vs base c, bkCaps vs base r with
    | some c', some r' => some (c' :: r')
    | _, _ => none

def bk1 (vs : List View) (base : Nat) : AV → Option AV
  | .ptr i o n => (match vs[i]? with
    | some v => some (.ptr v.b (v.o + o) n)
    | none => some (.ptr (base + (i - vs.length)) o n))
  | .sptr bs => (match bkPtrs vs base bs with | some x => some (.sptr x) | none => none)
  | .slice i o len cap esz => (match vs[i]? with
    | some v => some (.slice v.b (v.o + o) len cap esz)
    | none => some (.slice (base + (i - vs.length)) o len cap esz))
  | .fn f k caps => (match bkCaps vs base caps with | some x => some (.fn f k x) | none => none)
  | .tup _ => none
  | v => some v

def bkList (vs : List View) (base : Nat) : List AV → Option (List AV)
  | [] => some []
  | a :: r => match bk1 vs base a, bkList vs base r with
    | some a', some r' => some (a' :: r')
    | _, _ => none

def bkAV (vs : List View) (base : Nat) : AV → Option AV
  | .tup xs => (match bkList vs base xs with | some x => some (.tup x) | none => none)
  | v => bk1 vs base v

def bkBlks (vs : List View) (base : Nat) : List Blk → Option (List Blk)
  | [] => some []
  | ⟨rw, .avs us⟩ :: r => (match bkList vs base us, bkBlks vs base r with
    | some us', some r' => some (⟨rw, .avs us'⟩ :: r')
    | _, _ => none)
  | x :: r => (match bkBlks vs base r with | some r' => some (x :: r') | none => none)

def bigN (β γ : Names) (n m : Nat) : Names := fun b => if b < n then β b else γ (m + (b - n))

section
variable {β γ : Names} {n : Nat} {vs : List View} (hγ : ∀ i, i < vs.length → γ i = small β vs i) (hv : ViewsOk β vs) (hf : ∀ b, n ≤ b → β b = none)

include hv hf in
theorem view_lt {i : Nat} {v : View} (hi : vs[i]? = some v) : v.b < n := by
  obtain ⟨L, hL, _⟩ := hv v (List.mem_of_getElem? hi)
  rcases Nat.lt_or_ge v.b n with h | h
  · exact h
  · rw [hf _ h] at hL; cases hL

include hγ in
theorem gamma_at {i : Nat} {v : View} {L : Loc} (hi : vs[i]? = some v) (hL : β v.b = some L) : γ i = some ⟨L.blk, L.base + v.o, v.n⟩ := by
  rw [hγ i (List.getElem?_eq_some_iff.1 hi).1]
  exact small_at hi hL

theorem big_new {i : Nat} (hi : vs[i]? = none) : bigN β γ n vs.length (n + (i - vs.length)) = γ i := by
  have : vs.length ≤ i := by simpa using hi
  unfold bigN
  rw [if_neg (by omega)]
  congr 1; omega

include hγ hv hf in
theorem bkPtrs_ok : ∀ {bs bs' : List (Nat × Nat)} {blk base : Nat}, bkPtrs vs n bs = some bs' → chained γ blk base bs → chained (bigN β γ n vs.length) blk base bs'
  | [], _, _, _, h, _ => by simp [bkPtrs] at h; subst h; trivial
  | (i, k) :: r, bs', blk, base, h, ⟨h1, h2⟩ => by
    simp only [bkPtrs] at h
    split at h
    · cases h
    · rename_i r' hr'
      have ih := bkPtrs_ok hr' h2
      split at h
      · rename_i v hvi
        split at h
        · rename_i hw
          cases h
          refine ⟨?_, ih⟩
          obtain ⟨L, hL, hin, hwh⟩ := hv v (List.mem_of_getElem? hvi)
          have hg := gamma_at hγ hvi hL
          rw [h1] at hg
          unfold bigN
          rw [if_pos (view_lt hv hf hvi), hL]
          obtain ⟨e1, e2⟩ := hwh hw
          cases L
          simp only [Option.some.injEq, Loc.mk.injEq] at hg ⊢
          simp only at e2
          omega
        · cases h
      · rename_i hvi
        cases h
        exact ⟨by rw [big_new hvi]; exact h1, ih⟩

theorem bkPtrs_ne : ∀ {bs bs' : List (Nat × Nat)}, bkPtrs vs n bs = some bs' → bs ≠ [] → bs' ≠ []
  | [], _, _, h => absurd rfl h
  | (i, k) :: r, bs', h, _ => by
    simp only [bkPtrs] at h
    split at h
    · cases h
    · split at h
      · split at h
        · cases h; simp
        · cases h
      · cases h; simp

include hγ hv hf in
theorem bkPtr_rel {bs bs' : List (Nat × Nat)} {y : Value} (h : bkPtrs vs n bs = some bs') (r : ptrRel γ bs y) : ptrRel (bigN β γ n vs.length) bs' y := by
  obtain ⟨h1, blk, base, h2, h3⟩ := r
  exact ⟨bkPtrs_ne h h1, blk, base, h2, bkPtrs_ok hγ hv hf h h3⟩

include hγ hv hf in
theorem bkCaps_ok : ∀ {cs cs' : List (List (Nat × Nat))} {ys : List Value}, bkCaps vs n cs = some cs' → all2 (ptrRel γ) cs ys → all2 (ptrRel (bigN β γ n vs.length)) cs' ys
  | [], _, [], h, _ => by simp [bkCaps] at h; subst h; trivial
  | c :: cs, cs', y :: ys, h, ⟨h1, h2⟩ => by
    simp only [bkCaps] at h
    split at h
    · rename_i c' r' hc hr'
      cases h
      exact ⟨bkPtr_rel hγ hv hf hc h1, bkCaps_ok hr' h2⟩
    · cases h
  | [], _, _ :: _, _, h => h.elim
  | _ :: _, _, [], _, h => h.elim

include hγ hv hf in
theorem bk1_ok {x x' : AV} {y : Value} (h : bk1 vs n x = some x') (r : x.rel1 γ y) : x'.rel1 (bigN β γ n vs.length) y := by
  cases x <;> simp only [bk1] at h
  case ptr i o k =>
    obtain ⟨M, hM, rfl, hin⟩ := r
    split at h
    · rename_i v hvi
      cases h
      obtain ⟨L, hL, hin', _⟩ := hv v (List.mem_of_getElem? hvi)
      have hg := gamma_at hγ hvi hL
      rw [hM] at hg; cases hg
      refine ⟨L, by unfold bigN; rw [if_pos (view_lt hv hf hvi)]; exact hL, by simp [Loc.at, Nat.add_assoc], ?_⟩
      simp only at hin; omega
    · rename_i hvi
      cases h
      exact ⟨M, by rw [big_new hvi]; exact hM, rfl, hin⟩
  case sptr bs =>
    split at h
    · rename_i x hx
      cases h
      exact bkPtr_rel hγ hv hf hx r
    · cases h
  case slice i o len cap esz =>
    obtain ⟨M, a, c, hM, rfl, hle, ha, hcap⟩ := r
    split at h
    · rename_i v hvi
      cases h
      obtain ⟨L, hL, hin', _⟩ := hv v (List.mem_of_getElem? hvi)
      have hg := gamma_at hγ hvi hL
      rw [hM] at hg; cases hg
      refine ⟨L, a, c, by unfold bigN; rw [if_pos (view_lt hv hf hvi)]; exact hL, rfl, hle, ?_, ?_⟩
      · rcases ha with ha | ha
        · exact .inl ha
        · exact .inr (by rw [ha]; simp [Loc.at, Nat.add_assoc])
      · cases cap with
        | none => simp only at hcap ⊢; omega
        | some c0 => simp only at hcap ⊢; exact ⟨hcap.1, by have := hcap.2; omega⟩
    · rename_i hvi
      cases h
      exact ⟨M, a, c, by rw [big_new hvi]; exact hM, rfl, hle, ha, hcap⟩
  case fn f k caps =>
    obtain ⟨ys, h1, h2⟩ := r
    split at h
    · rename_i x hx
      cases h
      exact ⟨ys, h1, bkCaps_ok hγ hv hf hx h2⟩
    · cases h
  case tup => cases h
  all_goals (cases h; exact r)

include hγ hv hf in
theorem bkList_ok : ∀ {xs xs' : List AV} {ys : List Value}, bkList vs n xs = some xs' → all2 (AV.rel1 γ) xs ys → all2 (AV.rel1 (bigN β γ n vs.length)) xs' ys
  | [], _, [], h, _ => by simp [bkList] at h; subst h; trivial
  | c :: cs, cs', y :: ys, h, ⟨h1, h2⟩ => by
    simp only [bkList] at h
    split at h
    · rename_i c' r' hc hr'
      cases h
      exact ⟨bk1_ok hγ hv hf hc h1, bkList_ok hr' h2⟩
    · cases h
  | [], _, _ :: _, _, h => h.elim
  | _ :: _, _, [], _, h => h.elim

include hγ hv hf in
theorem bkAV_ok {x x' : AV} {y : Value} (h : bkAV vs n x = some x') (r : x.rel γ y) : x'.rel (bigN β γ n vs.length) y := by
  cases x
  case tup xs =>
    simp only [bkAV] at h
    split at h
    · rename_i xs' hx
      cases h
      obtain ⟨ys, h1, h2⟩ := r
      exact ⟨ys, h1, bkList_ok hγ hv hf hx h2⟩
    · cases h
  all_goals
    simp only [bkAV] at h
    simp only [AV.rel] at r
    exact rel_of_rel1 (bk1_ok hγ hv hf h r)

include hγ hv hf in
theorem bkAvs_rel {us us' : List AV} {L : Loc} {rw rw' : Bool} {w : World} (h : bkList vs n us = some us') (r : Blk.rel γ L ⟨rw, .avs us⟩ w) (hrw : rw' = true → rw = true) : Blk.rel (bigN β γ n vs.length) L ⟨rw', .avs us'⟩ w := by
  obtain ⟨ys, h1, h2⟩ := avs_vals r
  have h3 := bkList_ok hγ hv hf h h1
  simp only [Blk.rel] at r ⊢
  refine ⟨?_, fun i u hu => ?_⟩
  · have e1 := all2_length h1
    have e2 := all2_length h3
    omega
  · obtain ⟨y, hy, hr⟩ := all2_get h3 hu
    exact ⟨y, (h2 i y hy).1, hr, fun h => (h2 i y hy).2 (hrw h)⟩

end

/-! laying back -/

def wback (vs0 : List View) (base : Nat) : List View → List Blk → List Blk → Heap → Option Heap
  | [], _, _, h => some h
  | v :: vs, x :: xs, x' :: xs', h =>
    if x.rw = true then
      (match h[v.b]?, x'.c with
      | some ⟨_, .ints k m g⟩, .ints k' _ g' => if k = k' then wback vs0 base vs xs xs' (h.set v.b ⟨true, .ints k m (if v.whole = true then g' else updN g v.o v.n g')⟩) else none
      | some ⟨_, .avs _⟩, .avs us' => if v.whole = true then (match bkList vs0 base us' with | some us'' => wback vs0 base vs xs xs' (h.set v.b ⟨true, .avs us''⟩) | none => none) else none
      | _, _ => none)
    else wback vs0 base vs xs xs' h
  | _ :: _, _, _, _ => none

def Written (vs0 : List View) (base : Nat) (v : View) (y x' z : Blk) : Prop :=
  (∃ rw k m g n' g', y = ⟨rw, .ints k m g⟩ ∧ x'.c = .ints k n' g' ∧ z = ⟨true, .ints k m (if v.whole = true then g' else updN g v.o v.n g')⟩) ∨
  (∃ rw us us' us'', y = ⟨rw, .avs us⟩ ∧ x'.c = .avs us' ∧ v.whole = true ∧ bkList vs0 base us' = some us'' ∧ z = ⟨true, .avs us''⟩)

theorem wback_ok {vs0 : List View} {base : Nat} : ∀ {vs : List View} {xs xs' : List Blk} {h h' : Heap}, wback vs0 base vs xs xs' h = some h' → xs.length = vs.length →
    (∀ (i j : Nat) (v u : View) (x : Blk), vs[i]? = some v → vs[j]? = some u → xs[i]? = some x → x.rw = true → i ≠ j → v.b ≠ u.b) →
    h'.length = h.length ∧ (∀ b, (∀ (j : Nat) (v : View) (x : Blk), vs[j]? = some v → xs[j]? = some x → x.rw = true → v.b ≠ b) → h'[b]? = h[b]?) ∧
      ∀ (j : Nat) (v : View) (x : Blk), vs[j]? = some v → xs[j]? = some x → x.rw = true → ∃ x' y z, xs'[j]? = some x' ∧ h[v.b]? = some y ∧ h'[v.b]? = some z ∧ Written vs0 base v y x' z
  | [], xs, xs', h, h', hw, _, _ => by simp [wback] at hw; subst hw; exact ⟨rfl, fun _ _ => rfl, by simp⟩
  | v :: vs, [], _, _, _, _, hl, _ => by simp at hl
  | v :: vs, x :: xs, [], h, h', hw, _, _ => by simp [wback] at hw
  | v :: vs, x :: xs, x' :: xs', h, h', hw, hl, hd => by
    have hd' : ∀ (i j : Nat) (v u : View) (x : Blk), vs[i]? = some v → vs[j]? = some u → xs[i]? = some x → x.rw = true → i ≠ j → v.b ≠ u.b :=
      fun i j a b c h1 h2 h3 h4 h5 => hd (i + 1) (j + 1) a b c (by simpa using h1) (by simpa using h2) (by simpa using h3) h4 (by omega)
    have hl' : xs.length = vs.length := by simpa using hl
    simp only [wback] at hw
    have step : ∀ z, x.rw = true → (∃ y, h[v.b]? = some y ∧ Written vs0 base v y x' z) → wback vs0 base vs xs xs' (h.set v.b z) = some h' →
        h'.length = h.length ∧ (∀ b, (∀ (j : Nat) (u : View) (y : Blk), (v :: vs)[j]? = some u → (x :: xs)[j]? = some y → y.rw = true → u.b ≠ b) → h'[b]? = h[b]?) ∧
        ∀ (j : Nat) (u : View) (y : Blk), (v :: vs)[j]? = some u → (x :: xs)[j]? = some y → y.rw = true → ∃ x'' y z, (x' :: xs')[j]? = some x'' ∧ h[u.b]? = some y ∧ h'[u.b]? = some z ∧ Written vs0 base u y x'' z := by
      intro z hrw hy hz
      obtain ⟨y, hy, hwr⟩ := hy
      obtain ⟨h1, h2, h3⟩ := wback_ok hz hl' hd'
      refine ⟨by simpa using h1, fun b hb => ?_, fun j u q hu hq hqrw => ?_⟩
      · rw [h2 b (fun j u q a b c => hb (j + 1) u q (by simpa using a) (by simpa using b) c)]
        exact List.getElem?_set_ne (hb 0 v x rfl rfl hrw)
      · cases j with
        | zero =>
          simp at hu hq; subst hu; subst hq
          refine ⟨x', y, z, rfl, hy, ?_, hwr⟩
          rw [h2 v.b (fun j u q a b c => (hd 0 (j + 1) v u x rfl (by simpa using a) rfl hrw (by omega)).symm)]
          exact List.getElem?_set_self (List.getElem?_eq_some_iff.1 hy).1
        | succ j =>
          obtain ⟨x'', y', z', e1, e2, e3, e4⟩ := h3 j u q (by simpa using hu) (by simpa using hq) hqrw
          have hne := hd (j + 1) 0 u v q hu rfl hq hqrw (by omega)
          rw [List.getElem?_set_ne (fun e => hne e.symm)] at e2
          exact ⟨x'', y', z', by simpa using e1, e2, e3, e4⟩
    split at hw
    · rename_i hrw
      split at hw
      · rename_i rw k m g k' n' g' hy hx'
        split at hw
        · rename_i hk
          subst hk
          exact step _ hrw ⟨_, hy, .inl ⟨rw, k, m, g, n', g', rfl, hx', rfl⟩⟩ hw
        · cases hw
      · rename_i rw us us' hy hx'
        split at hw
        · rename_i hwh
          split at hw
          · rename_i us'' hus
            exact step _ hrw ⟨_, hy, .inr ⟨rw, us, us', us'', rfl, hx', hwh, hus, rfl⟩⟩ hw
          · cases hw
        · cases hw
      · cases hw
    · rename_i hrw
      obtain ⟨h1, h2, h3⟩ := wback_ok hw hl' hd'
      refine ⟨h1, fun b hb => h2 b (fun j u q a b c => hb (j + 1) u q (by simpa using a) (by simpa using b) c), fun j u q hu hq hqrw => ?_⟩
      cases j with
      | zero => simp at hu hq; subst hq; exact absurd hqrw hrw
      | succ j =>
        obtain ⟨x'', y', z', e1, e2⟩ := h3 j u q (by simpa using hu) (by simpa using hq) hqrw
        exact ⟨x'', y', z', by simpa using e1, e2⟩

theorem wback_quiet {vs0 : List View} {base : Nat} : ∀ {vs : List View} {xs xs' : List Blk} {h h' : Heap}, wback vs0 base vs xs xs' h = some h' → (∀ x ∈ xs, x.rw = false) → h' = h
  | [], _, _, _, _, hw, _ => by simp [wback] at hw; exact hw.symm
  | v :: vs, [], _, _, _, hw, _ => by simp [wback] at hw
  | v :: vs, x :: xs, [], h, h', hw, _ => by simp [wback] at hw
  | v :: vs, x :: xs, x' :: xs', h, h', hw, hx => by
    simp only [wback] at hw
    rw [if_neg (by rw [hx x (by simp)]; simp)] at hw
    exact wback_quiet hw fun y hy => hx y (by simp [hy])

theorem bkBlks_at {vs : List View} {base : Nat} : ∀ {xs ys : List Blk}, bkBlks vs base xs = some ys → ys.length = xs.length ∧ ∀ (i : Nat) (y : Blk), ys[i]? = some y → ∃ x : Blk, xs[i]? = some x ∧ x.rw = y.rw ∧
    ((∃ us us', x.c = .avs us ∧ bkList vs base us = some us' ∧ y.c = .avs us') ∨ ((∀ us, x.c ≠ .avs us) ∧ y = x))
  | [], ys, h => by simp [bkBlks] at h; subst h; exact ⟨rfl, by simp⟩
  | x :: xs, ys, h => by
    obtain ⟨rw, c⟩ := x
    cases c with
    | avs us =>
      simp only [bkBlks] at h
      split at h
      · rename_i us' r' h1 h2
        cases h
        obtain ⟨h3, h4⟩ := bkBlks_at h2
        refine ⟨by simp [h3], fun i y hy => ?_⟩
        cases i with
        | zero => simp at hy; subst hy; exact ⟨_, rfl, rfl, .inl ⟨us, us', rfl, h1, rfl⟩⟩
        | succ i => obtain ⟨x, e1, e2⟩ := h4 i y (by simpa using hy); exact ⟨x, by simpa using e1, e2⟩
      · cases h
    | ints k n g =>
      simp only [bkBlks] at h
      split at h
      · rename_i r' h2
        cases h
        obtain ⟨h3, h4⟩ := bkBlks_at h2
        refine ⟨by simp [h3], fun i y hy => ?_⟩
        cases i with
        | zero => simp at hy; subst hy; exact ⟨_, rfl, rfl, .inr ⟨by simp, rfl⟩⟩
        | succ i => obtain ⟨x, e1, e2⟩ := h4 i y (by simpa using hy); exact ⟨x, by simpa using e1, e2⟩
      · cases h
    | dead =>
      simp only [bkBlks] at h
      split at h
      · rename_i r' h2
        cases h
        obtain ⟨h3, h4⟩ := bkBlks_at h2
        refine ⟨by simp [h3], fun i y hy => ?_⟩
        cases i with
        | zero => simp at hy; subst hy; exact ⟨_, rfl, rfl, .inr ⟨by simp, rfl⟩⟩
        | succ i => obtain ⟨x, e1, e2⟩ := h4 i y (by simpa using hy); exact ⟨x, by simpa using e1, e2⟩
      · cases h

end Go.Proofs.Ytjnfeffflkgddaa.Hx
