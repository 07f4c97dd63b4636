import Derived.Test.YtoeailachidcdaaGreatDoorHgNorm
namespace Go.Proofs.YtoeailachidcdaaGreatDoor.Hg
set_option linter.unusedVariables false
set_option linter.unusedSimpArgs false
set_option linter.unusedSectionVars false
open Go Go.RowKit
variable [Gl : Glob]
def ids1 : AV → List Nat
  | .ptr b _ _ => [b]
  | .sptr bs => bs.map (·.1)
  | .slice _ b _ _ _ _ => [b]
  | .fn _ _ caps => caps.flatMap fun c => c.map (·.1)
  | _ => []
def idsL : List AV → List Nat
  | [] => []
  | v :: r => ids1 v ++ idsL r
def idsAV : AV → List Nat
  | .tup vs => idsL vs
  | .mixv vs => idsL vs
  | v => ids1 v
def idsB (x : Blk) : List Nat := match x.c with
  | .avs vs => idsL vs
  | .hdr p .. => [p]
  | _ => []
def freshIds (m : Nat) : List Nat → List Nat → List Nat
  | [], acc => acc
  | b :: r, acc => if b < m then freshIds m r acc else if acc.contains b = true then freshIds m r acc else freshIds m r (acc ++ [b])
def reach (m : Nat) (h : Heap) : Nat → Nat → List Nat → List Nat
  | 0, _, acc => acc
  | f + 1, i, acc => match acc[i]? with
    | none => acc
    | some b => (match h[b]? with
      | some x => reach m h f (i + 1) (freshIds m (idsB x) acc)
      | none => reach m h f (i + 1) acc)
def posOf (b : Nat) : List Nat → Nat → Option Nat
  | [], _ => none
  | c :: r, i => if c = b then some i else posOf b r (i + 1)
def rn (m : Nat) (fs : List Nat) (b : Nat) : Nat := if b < m then b else (match posOf b fs m with | some c => c | none => m + fs.length)
def cov (m : Nat) (fs : List Nat) (b : Nat) : Bool := decide (b < m) || fs.contains b
def re1 (m : Nat) (fs : List Nat) : AV → AV
  | .ptr b o n => .ptr (rn m fs b) o n
  | .sptr bs => .sptr (bs.map fun p => (rn m fs p.1, p.2))
  | .slice nn b o len cap esz => .slice nn (rn m fs b) o len cap esz
  | .fn f k caps => .fn f k (caps.map fun c => c.map fun p => (rn m fs p.1, p.2))
  | v => v
def reAV (m : Nat) (fs : List Nat) : AV → AV
  | .tup vs => .tup (vs.map (re1 m fs))
  | .mixv vs => .mixv (vs.map (re1 m fs))
  | v => re1 m fs v
def keepAV (m : Nat) (fs : List Nat) (v : AV) : AV := if (idsAV v).all (cov m fs) = true then reAV m fs v else .any
def reCont (m : Nat) (fs : List Nat) : Cont → Cont
  | .avs vs => .avs (vs.map (re1 m fs))
  | .hdr p n q of ln cp => .hdr (rn m fs p) n q of ln cp
  | c => c
def reBlk (m : Nat) (fs : List Nat) (x : Blk) : Blk := if (idsB x).all (cov m fs) = true then ⟨x.rw, reCont m fs x.c⟩ else ⟨x.rw, .dead⟩
def renOne (m : Nat) (fs : List Nat) (h : Heap) (b : Nat) : Blk := match h[b]? with | some x => reBlk m fs x | none => ⟨true, .dead⟩
def renH (m : Nat) (fs : List Nat) (h : Heap) : Heap := (h.take m).map (reBlk m fs) ++ fs.map (renOne m fs h)
def nodupB : List Nat → Bool
  | [] => true
  | b :: r => !r.contains b && nodupB r
def fsOk (m : Nat) (fs : List Nat) : Bool := nodupB fs && fs.all (fun b => decide (m ≤ b))
def reNames (γ : Names) (m : Nat) (fs : List Nat) : Names := fun i => if i < m then γ i else match fs[i - m]? with | some b => γ b | none => none
theorem posOf_some {b : Nat} : ∀ {fs : List Nat} {i c : Nat}, posOf b fs i = some c → i ≤ c ∧ fs[c - i]? = some b
  | [], _, _, h => by simp [posOf] at h
  | d :: r, i, c, h => by
    simp only [posOf] at h
    split at h
    · rename_i hd
      cases h
      exact ⟨Nat.le_refl _, by simp [hd]⟩
    · obtain ⟨h1, h2⟩ := posOf_some h
      refine ⟨by omega, ?_⟩
      rw [show c - i = (c - (i + 1)) + 1 by omega]
      simpa using h2
theorem posOf_none {b : Nat} : ∀ {fs : List Nat} {i : Nat}, posOf b fs i = none → b ∉ fs
  | [], _, _ => by simp
  | d :: r, i, h => by
    simp only [posOf] at h
    split at h
    · cases h
    · rename_i hd
      simp only [List.mem_cons, not_or]
      exact ⟨fun e => hd e.symm, posOf_none h⟩
theorem rn_ok {γ : Names} {m : Nat} {fs : List Nat} {b : Nat} (h : cov m fs b = true) : reNames γ m fs (rn m fs b) = γ b := by
  unfold rn
  split
  · rename_i hb; unfold reNames; rw [if_pos hb]
  · rename_i hb
    split
    · rename_i c hc
      obtain ⟨h1, h2⟩ := posOf_some hc
      unfold reNames
      rw [if_neg (by omega), h2]
    · rename_i hc
      have := posOf_none hc
      simp [cov, hb, this] at h
theorem rePtrs_ok {γ : Names} {m : Nat} {fs : List Nat} : ∀ {bs : List (Nat × Nat)} {blk base : Nat}, (bs.map (·.1)).all (cov m fs) = true → chained γ blk base bs → chained (reNames γ m fs) blk base (bs.map fun p => (rn m fs p.1, p.2))
  | [], _, _, _, _ => trivial
  | (b, n) :: r, blk, base, h, ⟨h1, h2⟩ => by
    simp only [List.map_cons, List.all_cons, Bool.and_eq_true] at h
    exact ⟨by rw [rn_ok h.1]; exact h1, rePtrs_ok h.2 h2⟩
theorem rePtr_rel {γ : Names} {m : Nat} {fs : List Nat} {bs : List (Nat × Nat)} {y : Value} (h : (bs.map (·.1)).all (cov m fs) = true) (r : ptrRel γ bs y) : ptrRel (reNames γ m fs) (bs.map fun p => (rn m fs p.1, p.2)) y := by
  obtain ⟨h1, blk, base, h2, h3⟩ := r
  exact ⟨by simpa using h1, blk, base, h2, rePtrs_ok h h3⟩
theorem reCaps_rel {γ : Names} {m : Nat} {fs : List Nat} : ∀ {caps : List (List (Nat × Nat))} {ys : List Value}, (caps.flatMap fun c => c.map (·.1)).all (cov m fs) = true → all2 (ptrRel γ) caps ys → all2 (ptrRel (reNames γ m fs)) (caps.map fun c => c.map fun p => (rn m fs p.1, p.2)) ys
  | [], [], _, _ => trivial
  | c :: cs, y :: ys, h, ⟨h1, h2⟩ => by
    simp only [List.flatMap_cons, List.all_append, Bool.and_eq_true] at h
    exact ⟨rePtr_rel h.1 h1, reCaps_rel h.2 h2⟩
  | [], _ :: _, _, h => h.elim
  | _ :: _, [], _, h => h.elim
theorem re1_rel {γ : Names} {m : Nat} {fs : List Nat} {v : AV} {y : Value} (h : (ids1 v).all (cov m fs) = true) (r : v.rel1 γ y) : (re1 m fs v).rel1 (reNames γ m fs) y := by
  cases v <;> simp only [re1] <;> try exact r
  case ptr b o n =>
    simp only [ids1, List.all_cons, List.all_nil, Bool.and_true] at h
    obtain ⟨L, B, X, h1, h2⟩ := r
    exact ⟨L, B, X, by rw [rn_ok h]; exact h1, h2⟩
  case sptr bs => exact rePtr_rel h r
  case slice nn b o len cap esz =>
    simp only [ids1, List.all_cons, List.all_nil, Bool.and_true] at h
    obtain ⟨L, a, c, B, X, h1, h2⟩ := r
    exact ⟨L, a, c, B, X, by rw [rn_ok h]; exact h1, h2⟩
  case fn f k caps =>
    obtain ⟨vs, h1, h2⟩ := r
    exact ⟨vs, h1, reCaps_rel h h2⟩
theorem reL_rel {γ : Names} {m : Nat} {fs : List Nat} : ∀ {vs : List AV} {ys : List Value}, (idsL vs).all (cov m fs) = true → all2 (AV.rel1 γ) vs ys → all2 (AV.rel1 (reNames γ m fs)) (vs.map (re1 m fs)) ys
  | [], [], _, _ => trivial
  | v :: vs, y :: ys, h, ⟨h1, h2⟩ => by
    simp only [idsL, List.all_append, Bool.and_eq_true] at h
    exact ⟨re1_rel h.1 h1, reL_rel h.2 h2⟩
  | [], _ :: _, _, h => h.elim
  | _ :: _, [], _, h => h.elim
theorem reAV_rel {γ : Names} {m : Nat} {fs : List Nat} {v : AV} {y : Value} (h : (idsAV v).all (cov m fs) = true) (r : v.rel γ y) : (reAV m fs v).rel (reNames γ m fs) y := by
  cases v
  case tup vs => obtain ⟨ys, h1, h2⟩ := r; exact ⟨ys, h1, reL_rel h h2⟩
  case mixv vs => obtain ⟨ys, h1, h2⟩ := r; exact ⟨ys, h1, reL_rel h h2⟩
  all_goals
    simp only [AV.rel] at r
    simp only [idsAV] at h
    exact rel_of_rel1 (re1_rel h r)
theorem keepAV_rel {γ : Names} {m : Nat} {fs : List Nat} {v : AV} {y : Value} (r : v.rel γ y) : (keepAV m fs v).rel (reNames γ m fs) y := by
  unfold keepAV
  split
  · rename_i h; exact reAV_rel h r
  · trivial
theorem reBlk_rel {γ : Names} {m : Nat} {fs : List Nat} {x : Blk} {L : Loc} {w : World} (r : x.rel γ L w) : (reBlk m fs x).rel (reNames γ m fs) L w ∧ (reBlk m fs x).rw = x.rw ∧ ((reBlk m fs x).c ≠ .dead → x.c ≠ .dead) := by
  obtain ⟨rw, c⟩ := x
  unfold reBlk
  split
  · rename_i h
    cases c with
    | flat n f => exact ⟨⟨r.cells, r.cont⟩, rfl, fun h => h⟩
    | dead => exact ⟨Blk.rel_dead, rfl, fun h => h⟩
    | avs vs =>
      refine ⟨?_, rfl, fun _ => by simp⟩
      simp only [idsB] at h
      obtain ⟨ys, h1, h2⟩ := avs_vals r
      have h3 := reL_rel h h1
      have e1 := all2_length h1
      refine ⟨fun _ => r.cells (by simp), fun i hi => r.cont.1 i (by simpa using hi), fun i B X hp => ?_⟩
      obtain ⟨y, hy, hc⟩ := h2 i B X hp
      have hlt : i < (vs.map (re1 m fs)).length := by
        have := (List.getElem?_eq_some_iff.1 hy).1
        simp; omega
      obtain ⟨y', hy', hr⟩ := all2_get h3 (List.getElem?_eq_getElem hlt)
      rw [hy] at hy'; cases hy'
      exact ⟨_, y, List.getElem?_eq_getElem hlt, hc, hr⟩
    | hdr p n q of ln cp =>
      refine ⟨?_, rfl, fun _ => by simp⟩
      simp only [idsB, List.all_cons, List.all_nil, Bool.and_true] at h
      obtain ⟨⟨M, hM, hq⟩, hc⟩ := r.cont
      have hM' : reNames γ m fs (rn m fs p) = some M := by rw [rn_ok h]; exact hM
      refine ⟨fun _ => r.cells (by simp), ⟨M, hM', hq⟩, fun i B X hp => ?_⟩
      obtain ⟨u, h1, h2⟩ := hc i B X hp
      exact ⟨u, h1, hdr_moved hM hM' h2⟩
  · exact ⟨Blk.rel_dead, rfl, fun h => absurd rfl h⟩
theorem nodupB_at : ∀ {fs : List Nat}, nodupB fs = true → ∀ {i j b : Nat}, fs[i]? = some b → fs[j]? = some b → i = j
  | [], _, _, _, _, h, _ => by simp at h
  | c :: r, h, i, j, b, hi, hj => by
    simp only [nodupB, Bool.and_eq_true, Bool.not_eq_true', List.contains_eq_mem, decide_eq_false_iff_not] at h
    cases i with
    | zero =>
      cases j with
      | zero => rfl
      | succ j =>
        simp at hi; subst hi
        exact absurd (List.mem_of_getElem? (by simpa using hj)) h.1
    | succ i =>
      cases j with
      | zero =>
        simp at hj; subst hj
        exact absurd (List.mem_of_getElem? (by simpa using hi)) h.1
      | succ j =>
        have := nodupB_at h.2 (i := i) (j := j) (by simpa using hi) (by simpa using hj)
        omega
def was (m : Nat) (fs : List Nat) (b : Nat) : Option Nat := if b < m then some b else fs[b - m]?
theorem was_names {γ : Names} {m : Nat} {fs : List Nat} {b c : Nat} (h : was m fs b = some c) : reNames γ m fs b = γ c := by
  unfold was at h
  unfold reNames
  split at h
  · rename_i hb; cases h; rw [if_pos hb]
  · rename_i hb; rw [if_neg hb, h]
theorem renH_at {m : Nat} {fs : List Nat} {h : Heap} (hm : m ≤ h.length) {b : Nat} {x : Blk} (hx : (renH m fs h)[b]? = some x) (hd : x.c ≠ .dead) : ∃ c y, was m fs b = some c ∧ h[c]? = some y ∧ x = reBlk m fs y := by
  unfold renH at hx
  have hl : ((h.take m).map (reBlk m fs)).length = m := by simp; omega
  by_cases hb : b < m
  · rw [List.getElem?_append_left (by omega), List.getElem?_map, Option.map_eq_some_iff] at hx
    obtain ⟨y, h1, rfl⟩ := hx
    rw [List.getElem?_take_of_lt hb] at h1
    exact ⟨b, y, by unfold was; rw [if_pos hb], h1, rfl⟩
  · rw [List.getElem?_append_right (by omega), hl, List.getElem?_map, Option.map_eq_some_iff] at hx
    obtain ⟨c, h1, rfl⟩ := hx
    unfold renOne at hd ⊢
    split at hd
    · rename_i y hy
      exact ⟨c, y, by unfold was; rw [if_neg hb]; exact h1, hy, rfl⟩
    · exact absurd rfl hd
theorem was_inj {m : Nat} {fs : List Nat} (hf : fsOk m fs = true) {a b c : Nat} (ha : was m fs a = some c) (hb : was m fs b = some c) : a = b := by
  simp only [fsOk, Bool.and_eq_true, List.all_eq_true, decide_eq_true_eq] at hf
  unfold was at ha hb
  split at ha <;> split at hb
  · cases ha; cases hb; rfl
  · cases ha
    have := hf.2 a (List.mem_of_getElem? hb)
    omega
  · cases hb
    have := hf.2 b (List.mem_of_getElem? ha)
    omega
  · have := nodupB_at hf.1 ha hb
    omega
theorem renH_ok {γ : Names} {h : Heap} {w : World} {m : Nat} {fs : List Nat} (hr : HRel γ h w) (hm : m ≤ h.length) (hf : fsOk m fs = true) : HRel (reNames γ m fs) (renH m fs h) w ∧ ∀ a, Mine (reNames γ m fs) (renH m fs h) a → Mine γ h a := by
  have hat : ∀ (b : Nat) (x : Blk), (renH m fs h)[b]? = some x → x.c ≠ .dead → ∃ c y, was m fs b = some c ∧ h[c]? = some y ∧ x = reBlk m fs y ∧ y.c ≠ .dead ∧ y.rw = x.rw ∧ reNames γ m fs b = γ c := by
    intro b x hx hd
    obtain ⟨c, y, h1, h2, rfl⟩ := renH_at hm hx hd
    have hyd : y.c ≠ .dead := by
      intro e
      unfold reBlk at hd
      split at hd
      · rw [e] at hd; exact hd rfl
      · exact hd rfl
    refine ⟨c, y, h1, h2, rfl, hyd, ?_, was_names h1⟩
    unfold reBlk; split <;> rfl
  refine ⟨⟨?_, ?_, ?_, ?_, hr.glob, ?_⟩, ?_⟩
  · intro b x hx hd
    obtain ⟨c, y, h1, h2, rfl, h3, _, h4⟩ := hat b x hx hd
    obtain ⟨L, hL, hrel⟩ := hr.blk c y h2 h3
    exact ⟨L, by rw [h4]; exact hL, (reBlk_rel hrel).1⟩
  · intro b b' x x' L L' B X hne hx hx' hL hL' hrw hd hd' ho ho'
    obtain ⟨c, y, h1, h2, _, h3, h5, h4⟩ := hat b x hx hd
    obtain ⟨c', y', g1, g2, _, g3, _, g4⟩ := hat b' x' hx' hd'
    rw [h4] at hL
    rw [g4] at hL'
    refine hr.disj c c' y y' L L' B X ?_ h2 g2 hL hL' (by rw [h5]; exact hrw) h3 g3 ho ho'
    rintro rfl
    exact hne (was_inj hf h1 g1)
  · intro b x L hx hL hrw hd
    obtain ⟨c, y, h1, h2, _, h3, h5, h4⟩ := hat b x hx hd
    rw [h4] at hL
    exact hr.inj c y L h2 hL (by rw [h5]; exact hrw) h3
  · intro b hb
    have hl : (renH m fs h).length = m + fs.length := by unfold renH; simp; omega
    rw [hl] at hb
    unfold reNames
    rw [if_neg (by omega), List.getElem?_eq_none (by omega)]
  · intro b x L B X hx hrw hd hL ho
    obtain ⟨c, y, h1, h2, _, h3, h5, h4⟩ := hat b x hx hd
    rw [h4] at hL
    exact hr.gap c y L B X h2 (by rw [h5]; exact hrw) h3 hL ho
  · rintro a ⟨b, x, L, hx, hrw, hd, hL, ho⟩
    obtain ⟨c, y, h1, h2, _, h3, h5, h4⟩ := hat b x hx hd
    rw [h4] at hL
    exact ⟨c, y, L, h2, by rw [h5]; exact hrw, h3, hL, ho⟩
theorem renH_length {m : Nat} {fs : List Nat} {h : Heap} (hm : m ≤ h.length) : (renH m fs h).length = m + fs.length := by unfold renH; simp; omega
def keepT (ks : List Nat) : Nat → List AV → List AV
  | _, [] => []
  | i, v :: r => (if ks.contains i = true then v else .any) :: keepT ks (i + 1) r
def idsT : List AV → List Nat
  | [] => []
  | v :: r => idsAV v ++ idsT r
def idsH : Nat → Heap → List Nat
  | 0, _ => []
  | _ + 1, [] => []
  | m + 1, x :: r => idsB x ++ idsH m r
def fsOf (m : Nat) (t : List AV) (h : Heap) : List Nat := reach m h 60 0 (freshIds m (idsT t ++ idsH m h) [])
def renS (m : Nat) (fs : List Nat) (s : St) : St := if fsOk m fs = true ∧ m ≤ s.h.length then ⟨s.t.map (keepAV m fs), renH m fs s.h⟩ else s
def renK (m : Nat) (ks : List Nat) (s : St) : St := (fun s1 : St => renS m (fsOf m s1.t s1.h) s1) ⟨keepT ks 0 s.t, s.h⟩
def norm (m : Nat) (ks : List Nat) (c1 c2 : List (CT × CV)) (s : St) : St := match c2 with
  | [] => renK m ks (convs c1 s)
  | c :: r => renK m ks (convs (c :: r) (renK m ks (convs c1 s)))
theorem keepT_get {ks : List Nat} : ∀ {t : List AV} {j i : Nat} {v : AV}, (keepT ks j t)[i]? = some v → ∃ u, t[i]? = some u ∧ (v = .any ∨ v = u)
  | [], _, _, _, h => by simp [keepT] at h
  | u :: r, j, 0, v, h => by
    simp only [keepT, List.getElem?_cons_zero, Option.some.injEq] at h
    refine ⟨u, rfl, ?_⟩
    split at h
    · exact .inr h.symm
    · exact .inl h.symm
  | u :: r, j, i + 1, v, h => by
    obtain ⟨w, h1, h2⟩ := keepT_get (t := r) (j := j + 1) (i := i) (by simpa [keepT] using h)
    exact ⟨w, by simpa using h1, h2⟩
theorem keepT_length {ks : List Nat} : ∀ {t : List AV} {j : Nat}, (keepT ks j t).length = t.length
  | [], _ => rfl
  | _ :: r, j => by simp [keepT, keepT_length (t := r)]
theorem renS_ok {β : Names} {s : St} {a : Act} {w : World} (r : Rel β s a w) (m : Nat) (fs : List Nat) : ∃ γ, Rel γ (renS m fs s) a w ∧ Goes m β γ s.h (renS m fs s).h w w := by
  unfold renS
  split
  · rename_i hc
    obtain ⟨hf, hm⟩ := hc
    obtain ⟨h1, h2⟩ := renH_ok r.heap hm hf
    refine ⟨_, ⟨by simp [r.len], ?_, r.defers, h1⟩, ⟨fun _ b hb => ?_, fun _ => ?_, Ext.refl _ _, fun x hx => .inl (h2 x hx)⟩⟩
    · intro i v hv
      simp only [List.getElem?_map, Option.map_eq_some_iff] at hv
      obtain ⟨u, hu, rfl⟩ := hv
      exact keepAV_rel (r.val i u hu)
    · unfold reNames; rw [if_pos hb]
    · show m ≤ (renH m fs s.h).length
      rw [renH_length hm]; omega
  · exact ⟨β, r, Goes.refl _ _ _ _⟩
theorem renK_ok {β : Names} {s : St} {a : Act} {w : World} (r : Rel β s a w) (m : Nat) (ks : List Nat) : ∃ γ, Rel γ (renK m ks s) a w ∧ Goes m β γ s.h (renK m ks s).h w w := by
  have r2 : Rel β ⟨keepT ks 0 s.t, s.h⟩ a w := by
    refine ⟨?_, fun i v hv => ?_, r.defers, r.heap⟩
    · rw [keepT_length]; exact r.len
    · obtain ⟨u, h1, h2⟩ := keepT_get hv
      rcases h2 with rfl | rfl
      · trivial
      · exact r.val i v h1
  exact renS_ok r2 m _
theorem norm_ok {β : Names} {s : St} {a : Act} {w : World} (r : Rel β s a w) (m : Nat) (ks : List Nat) (c1 c2 : List (CT × CV)) : ∃ γ, Rel γ (norm m ks c1 c2 s) a w ∧ Goes m β γ s.h (norm m ks c1 c2 s).h w w := by
  obtain ⟨γ, r1, a1⟩ := convs_ok (cs := c1) r
  obtain ⟨δ, r2, g2⟩ := renK_ok r1 m ks
  unfold norm
  split
  · exact ⟨δ, r2, (a1.goes m).trans g2⟩
  · rename_i c l
    obtain ⟨ε, r3, a3⟩ := convs_ok (cs := c :: l) r2
    obtain ⟨ζ, r4, g4⟩ := renK_ok r3 m ks
    exact ⟨ζ, r4, (((a1.goes m).trans g2).trans (a3.goes m)).trans g4⟩
end Go.Proofs.YtoeailachidcdaaGreatDoor.Hg
