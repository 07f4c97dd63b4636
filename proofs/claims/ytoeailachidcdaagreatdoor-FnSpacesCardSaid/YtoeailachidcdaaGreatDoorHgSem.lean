import Derived.Test.YtoeailachidcdaaGreatDoorHgMem
namespace Go.Proofs.YtoeailachidcdaaGreatDoor.Hg
set_option linter.unusedVariables false
set_option linter.unusedSimpArgs false
set_option linter.unusedSectionVars false
open Go Go.RowKit
variable [Gl : Glob]
theorem lay_int {P : Program} {t : TypeId} {k : IntKind} (h : Lay.chk P t (.int k) = true) : P.underlying t = some (.int k) ∧ ∃ i, P.info? t = some i ∧ i.size = 1 ∧ i.zero = some (.int k 0) := by
  simp only [Lay.chk, Bool.and_eq_true] at h
  obtain ⟨h1, h2⟩ := h
  constructor
  · split at h1
    · simp at h1; subst h1; assumption
    · cases h1
  · split at h2
    · rename_i i hi
      simp only [Bool.and_eq_true] at h2
      refine ⟨i, hi, by simpa using h2.1, ?_⟩
      have h3 := h2.2
      split at h3
      · simp at h3; obtain ⟨rfl, rfl⟩ := h3; assumption
      · cases h3
    · cases h2
theorem lay_str {P : Program} {t : TypeId} (h : Lay.chk P t .str = true) : P.underlying t = some .string ∧ ∃ i s, P.info? t = some i ∧ i.size = 1 ∧ i.zero = some (.string s) ∧ s.size = 0 := by
  simp only [Lay.chk, Bool.and_eq_true] at h
  obtain ⟨h1, h2⟩ := h
  constructor
  · split at h1
    · assumption
    · cases h1
  · split at h2
    · rename_i i hi
      simp only [Bool.and_eq_true] at h2
      have h3 := h2.2
      split at h3
      · rename_i s hz; exact ⟨i, s, hi, by simpa using h2.1, hz, by simpa using h3⟩
      · cases h3
    · cases h2
theorem lay_bool {P : Program} {t : TypeId} (h : Lay.chk P t .bool = true) : P.underlying t = some .bool ∧ ∃ i, P.info? t = some i ∧ i.size = 1 ∧ i.zero = some (.bool false) := by
  simp only [Lay.chk, Bool.and_eq_true] at h
  obtain ⟨h1, h2⟩ := h
  constructor
  · split at h1
    · assumption
    · cases h1
  · split at h2
    · rename_i i hi
      simp only [Bool.and_eq_true] at h2
      have h3 := h2.2
      split at h3
      · rename_i b hz; simp at h3; subst h3; exact ⟨i, hi, by simpa using h2.1, hz⟩
      · cases h3
    · cases h2
theorem zeroIs_eq {P : Program} {t : TypeId} {rs : List (IntKind × Nat)} (h : zeroIs P t rs = true) : ∃ i, P.info? t = some i ∧ i.zero = some (.agg (cellsOf (zruns0 rs)).toArray) := by
  unfold zeroIs at h
  split at h
  · rename_i cs he
    cases hi : P.info? t with
    | none => simp [hi] at he
    | some i =>
      simp [hi] at he
      refine ⟨i, rfl, ?_⟩
      rw [he, ← zruns_eq h]
  · cases h
theorem lay_arr {P : Program} {t e : TypeId} {k : IntKind} {len n : Nat} (h : Lay.chk P t (.arr len e n k) = true) :
    P.underlying t = some (.array len e) ∧ (∃ i, P.info? t = some i ∧ i.size = len * n ∧ i.zero = some (.agg (cellsOf (zruns0 [(k, len * n)])).toArray)) ∧ (∃ i, P.info? e = some i ∧ i.size = n) ∧ intArr P k 10 t = some (len * n) ∧ 0 < n ∧ 0 < len ∧ 0 < len * n := by
  simp only [Lay.chk, Bool.and_eq_true] at h
  obtain ⟨⟨⟨⟨⟨⟨⟨h1, h2⟩, h3⟩, h4⟩, h5⟩, h6⟩, h7⟩, h8⟩ := h
  refine ⟨?_, ?_, ?_, by simpa using h5, by simp at h6; omega, by simp at h7; omega, by simp at h8; exact Nat.pos_of_ne_zero (by simpa using h8)⟩
  · split at h1
    · simp at h1; obtain ⟨rfl, rfl⟩ := h1; assumption
    · cases h1
  · obtain ⟨i, hi, hz⟩ := zeroIs_eq h4
    rw [hi] at h2
    exact ⟨i, hi, by simpa using h2, hz⟩
  · split at h3
    · rename_i i hi; exact ⟨i, hi, by simpa using h3⟩
    · cases h3
theorem fieldsAre_at {P : Program} : ∀ {fs : List Field} {gs : List (Nat × Nat × Bool)}, fieldsAre P fs gs = true → ∀ {i o n : Nat} {b : Bool}, gs[i]? = some (o, n, b) →
    ∃ f, fs[i]? = some f ∧ f.offset = o ∧ (P.info? f.type).map (·.size) = some n ∧ n ≠ 0 ∧ aggT P f.type = b ∧ ∃ d, P.underlying f.type = some d
  | [], [], _, _, _, _, _, h => by simp at h
  | f :: fs, (o, n, b) :: gs, h, 0, _, _, _, e => by
    simp only [fieldsAre, Bool.and_eq_true] at h
    simp at e; obtain ⟨rfl, rfl, rfl⟩ := e
    exact ⟨f, rfl, by simpa using h.1.1.1.1.1, by simpa using h.1.1.1.1.2, by simpa using h.1.1.1.2, by simpa using h.1.1.2, Option.isSome_iff_exists.1 h.1.2⟩
  | f :: fs, (o, n, b) :: gs, h, i + 1, o', n', b', e => by
    simp only [fieldsAre, Bool.and_eq_true] at h
    obtain ⟨f', h1, h2⟩ := fieldsAre_at h.2 (i := i) (by simpa using e)
    exact ⟨f', by simpa using h1, h2⟩
  | [], _ :: _, h, _, _, _, _, _ => by simp [fieldsAre] at h
  | _ :: _, [], h, _, _, _, _, _ => by simp [fieldsAre] at h
theorem lay_struct {P : Program} {t : TypeId} {fs : List (Nat × Nat × Bool)} {rs : List (IntKind × Nat)} (h : Lay.chk P t (.struct fs rs) = true) :
    (∃ gs : Array Field, P.underlying t = some (.struct gs) ∧ fieldsAre P gs.toList fs = true) ∧ (∃ i, P.info? t = some i ∧ i.size = total rs ∧ i.zero = some (.agg (cellsOf (zruns0 rs)).toArray)) := by
  simp only [Lay.chk, Bool.and_eq_true] at h
  obtain ⟨⟨⟨h1, h2⟩, h3⟩, _⟩ := h
  constructor
  · split at h1
    · rename_i gs hg; exact ⟨gs, hg, h1⟩
    · cases h1
  · obtain ⟨i, hi, hz⟩ := zeroIs_eq h2
    rw [hi] at h3
    exact ⟨i, hi, by simpa using h3, hz⟩
def Lay.one : Lay → Bool
  | .int _ | .bool | .str | .func | .ptr | .slice .. => true
  | _ => false
theorem lay_one {P : Program} {t : TypeId} {l : Lay} (h : l.chk P t = true) (ho : l.one = true) : (∃ d, P.underlying t = some d) ∧ aggT P t = false ∧ ∃ i, P.info? t = some i ∧ i.size = 1 := by
  cases l <;> simp only [Lay.one] at ho <;> try contradiction
  all_goals
    simp only [Lay.chk, Bool.and_eq_true] at h
  case slice =>
    obtain ⟨⟨h1, h2⟩, _⟩ := h
    unfold aggT
    split at h1 <;> simp_all
    split at h2 <;> simp_all
  all_goals
    obtain ⟨h1, h2⟩ := h
    unfold aggT
    split at h1 <;> simp_all
    split at h2 <;> simp_all
def gather (h : Heap) : List (Nat × Nat) → Option (List Run)
  | [] => some []
  | (b, n) :: r => match h[b]? with
    | some ⟨_, .flat _ (.ints k g)⟩ => (match gather h r with | some rs => some (⟨k, n, g⟩ :: rs) | none => none)
    | _ => none
def sizes : List (Nat × Nat) → Nat
  | [] => 0
  | (_, n) :: r => n + sizes r
theorem gather_ok {β : Names} {h : Heap} {w : World} (hr : HRel β h w) : ∀ {bs : List (Nat × Nat)} {rs : List Run} {blk base : Nat}, gather h bs = some rs → chained β blk base bs →
    (cellsOf rs).length = sizes bs ∧ ∀ j v, (cellsOf rs)[j]? = some v → w.cell? ⟨blk, base + j, none⟩ = some v
  | [], rs, _, _, hg, _ => by simp [gather] at hg; subst hg; simp [cellsOf, sizes]
  | (b, n) :: r, rs, blk, base, hg, ⟨h1, h2⟩ => by
    simp only [gather] at hg
    split at hg
    · rename_i rw m k g hb
      split at hg
      · rename_i rs' hrs
        simp only [Option.some.injEq] at hg; subst hg
        obtain ⟨ih1, ih2⟩ := gather_ok hr hrs h2
        obtain ⟨L, hL, hrel⟩ := hr.blk b _ hb (by simp)
        rw [h1] at hL; cases hL
        have hc : cellsOf (⟨k, n, g⟩ :: rs') = Run.cells ⟨k, n, g⟩ ++ cellsOf rs' := by simp [cellsOf]
        rw [hc]
        refine ⟨by simp [sizes, Run.cells_length, ih1], fun j v hj => ?_⟩
        by_cases hlt : j < n
        · rw [List.getElem?_append_left (by simpa [Run.cells_length] using hlt), Run.cells_get _ hlt] at hj
          cases hj
          exact hrel.cont j blk (base + j) (Loc.lin_pl.2 ⟨hlt, rfl⟩)
        · rw [List.getElem?_append_right (by simpa [Run.cells_length] using hlt), Run.cells_length] at hj
          have := ih2 _ v hj
          rw [show base + n + (j - n) = base + j by omega] at this
          exact this
      · cases hg
    · cases hg
def xload (E : Env) (h : Heap) (t : TypeId) (x : AV) : Option AV :=
  match E.lay t with
  | some (.int kd) => (match x with
    | .ptr b o n => (match h[b]? with
      | some ⟨_, .flat _ (.ints k g)⟩ => if k = kd ∧ 1 ≤ n then some (.int k (g o)) else none
      | some ⟨_, .avs vs⟩ => if 1 ≤ n then vs[o]? else none
      | _ => none)
    | .sptr [(b, n)] => (match h[b]? with
      | some ⟨_, .flat _ (.ints k g)⟩ => if k = kd ∧ n = 1 then some (.int k (g 0)) else none
      | _ => none)
    | _ => none)
  | some (.arr len _ esz _) => (match x with
    | .ptr b o n => (match h[b]? with
      | some ⟨_, .flat _ (.ints k g)⟩ => if n = len * esz then some (.agg [⟨k, n, fun i => g (o + i)⟩]) else none
      | _ => none)
    | .sptr bs => if sizes bs = len * esz then (match gather h bs with | some rs => some (.agg rs) | none => none) else none
    | _ => none)
  | some (.struct _ rs) => (match x with
    | .ptr b o n => (match h[b]? with
      | some ⟨_, .flat _ (.ints k g)⟩ => if n = total rs then some (.agg [⟨k, n, fun i => g (o + i)⟩]) else none
      | _ => none)
    | .sptr bs => if sizes bs = total rs then (match gather h bs with | some rs => some (.agg rs) | none => none) else none
    | _ => none)
  | some (.mix ..) => none
  | some (.barr ..) => none
  | some .other | none => none
  | some _ => (match x with
    | .sptr [(b, n)] => (match h[b]? with | some ⟨_, .avs vs⟩ => if n = 1 then vs[0]? else none | _ => none)
    | .ptr b o n => (match h[b]? with
      | some ⟨_, .avs vs⟩ => if 1 ≤ n then vs[o]? else none
      | some ⟨_, .flat _ (.strs g)⟩ => if 1 ≤ n then some (.str (g o)) else none
      | some ⟨_, .flat _ (.bools g)⟩ => if 1 ≤ n then some (.bool (g o)) else none
      | some ⟨_, .hdr p _ _ of ln cp⟩ => if 1 ≤ n then some (hdrAV p of ln cp o) else none
      | _ => none)
    | _ => none)
theorem rel_of_rel1 {β : Names} {v : AV} {u : Value} (h : v.rel1 β u) : v.rel β u := by
  cases v
  case tup vs => exact h.elim
  case mixv vs => exact h.elim
  all_goals exact h
theorem agg_one (k : IntKind) (n : Nat) (g : Nat → Int) : cellsOf [⟨k, n, g⟩] = Run.cells ⟨k, n, g⟩ := by simp [cellsOf]
section
variable {E : Env} {β : Names} {h : Heap} {w : World}
theorem load_flat {t : TypeId} {l : Lay} (hl : l.chk E.P t = true) (ho : l.one = true) (hr : HRel β h w) {b o B X : Nat} {rw : Bool} {m : Nat} {f : FK} {L : Loc} (hb : h[b]? = some ⟨rw, .flat m f⟩) (hL : β b = some L) (hp : L.pl o = some (B, X)) :
    (Instr.loadAt t (.pointer (some ⟨B, X, none⟩))).run E.P w = .ok (f.at o) w := by
  obtain ⟨⟨d, hd⟩, ha, _⟩ := lay_one hl ho
  obtain ⟨L', hL', hrel⟩ := hr.blk b _ hb (by simp)
  rw [hL] at hL'; cases hL'
  simp [Instr.loadAt, Instr.sureAddr, run_loadVar_one hd ha (hrel.cont o B X hp)]
theorem load_avs {t : TypeId} {l : Lay} (hl : l.chk E.P t = true) (ho : l.one = true) (hr : HRel β h w) {b o B X : Nat} {rw : Bool} {vs : List AV} {v : AV} {L : Loc} (hb : h[b]? = some ⟨rw, .avs vs⟩) (hL : β b = some L) (hp : L.pl o = some (B, X)) (hv : vs[o]? = some v) :
    ∃ u, (Instr.loadAt t (.pointer (some ⟨B, X, none⟩))).run E.P w = .ok u w ∧ v.rel β u := by
  obtain ⟨⟨d, hd⟩, ha, _⟩ := lay_one hl ho
  obtain ⟨L', hL', hrel⟩ := hr.blk b _ hb (by simp)
  rw [hL] at hL'; cases hL'
  obtain ⟨v', u, h0, h1, h2⟩ := hrel.cont.2 o B X hp
  rw [hv] at h0; cases h0
  exact ⟨u, by simp [Instr.loadAt, Instr.sureAddr, run_loadVar_one hd ha h1], rel_of_rel1 h2⟩
theorem load_hdr {t : TypeId} {l : Lay} (hl : l.chk E.P t = true) (ho : l.one = true) (hr : HRel β h w) {b o B X : Nat} {rw : Bool} {p n q : Nat} {of ln : Nat → Nat} {cp : Option (Nat → Nat)} {L : Loc} (hb : h[b]? = some ⟨rw, .hdr p n q of ln cp⟩) (hL : β b = some L) (hp : L.pl o = some (B, X)) :
    ∃ u, (Instr.loadAt t (.pointer (some ⟨B, X, none⟩))).run E.P w = .ok u w ∧ (hdrAV p of ln cp o).rel β u := by
  obtain ⟨⟨d, hd⟩, ha, _⟩ := lay_one hl ho
  obtain ⟨L', hL', hrel⟩ := hr.blk b _ hb (by simp)
  rw [hL] at hL'; cases hL'
  obtain ⟨u, h1, h2⟩ := hrel.cont.2 o B X hp
  exact ⟨u, by simp [Instr.loadAt, Instr.sureAddr, run_loadVar_one hd ha h1], rel_of_rel1 h2⟩
theorem load_window {t : TypeId} {d : TypeDesc} (hd : E.P.underlying t = some d) (ha : aggT E.P t = true) {n : Nat} (hn : (E.P.info? t).map (·.size) = some n) (hr : HRel β h w) {b o B X : Nat} {rw : Bool} {k : IntKind} {m : Nat} {g : Nat → Int} {L : Loc}
    (hb : h[b]? = some ⟨rw, .flat m (.ints k g)⟩) (hL : β b = some L) (ho' : L.span o n B X) :
    (Instr.loadAt t (.pointer (some ⟨B, X, none⟩))).run E.P w = .ok (.agg (Run.cells ⟨k, n, fun i => g (o + i)⟩).toArray) w := by
  obtain ⟨L', hL', hrel⟩ := hr.blk b _ hb (by simp)
  rw [hL] at hL'; cases hL'
  have := run_loadVar_many (P := E.P) (w := w) (a := ⟨B, X, none⟩) (cs := Run.cells ⟨k, n, fun i => g (o + i)⟩) hd ha (by rw [Run.cells_length]; exact hn) (fun j v hj => by
    have hlt : j < n := by have := (List.getElem?_eq_some_iff.1 hj).1; simpa [Run.cells_length] using this
    rw [Run.cells_get _ hlt] at hj; cases hj
    rw [add_mk]
    exact hrel.cont (o + j) B (X + j) (ho' j hlt))
  simp [Instr.loadAt, Instr.sureAddr, this]
theorem load_whole {t : TypeId} {d : TypeDesc} (hd : E.P.underlying t = some d) (ha : aggT E.P t = true) {bs : List (Nat × Nat)} (hn : (E.P.info? t).map (·.size) = some (sizes bs)) (hr : HRel β h w) {rs : List Run} (hg : gather h bs = some rs) {blk base : Nat} (hc : chained β blk base bs) :
    (Instr.loadAt t (.pointer (some ⟨blk, base, none⟩))).run E.P w = .ok (.agg (cellsOf rs).toArray) w := by
  obtain ⟨h1, h2⟩ := gather_ok hr hg hc
  have := run_loadVar_many (P := E.P) (w := w) (a := ⟨blk, base, none⟩) (cs := cellsOf rs) hd ha (by rw [h1]; exact hn) (fun j v hj => by rw [add_mk]; exact h2 j v hj)
  simp [Instr.loadAt, Instr.sureAddr, this]
theorem sptr_one {b n : Nat} {y : Value} (hy : ptrRel β [(b, n)] y) : ∃ blk base, β b = some (Loc.lin blk base n) ∧ y = .pointer (some ⟨blk, base, none⟩) := by
  obtain ⟨_, blk, base, rfl, hc, _⟩ := hy
  exact ⟨blk, base, hc, rfl⟩
theorem lin_at {blk base n o : Nat} (h : o < n) : (Loc.lin blk base n).pl o = some (blk, base + o) := Loc.lin_pl.2 ⟨h, rfl⟩
theorem lin_0 {blk base n : Nat} (h : 0 < n) : (Loc.lin blk base n).pl 0 = some (blk, base) := Loc.lin_pl.2 ⟨h, rfl⟩
theorem span_at {L : Loc} {o n B X : Nat} (h : L.span o n B X) (hn : 1 ≤ n) : L.pl o = some (B, X) := h 0 (by omega)
theorem xload_ok (hE : laysOk E.P E.lays = true) (hr : HRel β h w) {t : TypeId} {x v : AV} (hx : xload E h t x = some v) {y : Value} (hy : x.rel β y) :
    ∃ u, (Instr.loadAt t y).run E.P w = .ok u w ∧ v.rel β u := by
  unfold xload at hx
  split at hx
  · rename_i kd hl
    have hc := laysOk_at hE hl
    split at hx
    · rename_i b o n
      obtain ⟨L, B, X, hL, rfl, hin⟩ := hy
      split at hx
      · rename_i rw m k g hb
        split at hx
        · rename_i hk
          cases hx
          exact ⟨_, load_flat hc rfl hr hb hL (span_at hin hk.2), rfl⟩
        · cases hx
      · rename_i rw vs hb
        split at hx
        · rename_i hk
          exact load_avs hc rfl hr hb hL (span_at hin hk) hx
        · cases hx
      · cases hx
    · rename_i b n
      obtain ⟨blk, base, hL, rfl⟩ := sptr_one hy
      split at hx
      · rename_i rw m k g hb
        split at hx
        · rename_i hk
          cases hx
          exact ⟨_, load_flat hc rfl hr hb hL (lin_0 (by omega)), rfl⟩
        · cases hx
      · cases hx
    · cases hx
  · rename_i len e esz kd hl
    obtain ⟨hu, ⟨i, hi, hs, _⟩, _⟩ := lay_arr (laysOk_at hE hl)
    have ha : aggT E.P t = true := by simp [aggT, hu]
    split at hx
    · rename_i b o n
      obtain ⟨L, B, X, hL, rfl, hin⟩ := hy
      split at hx
      · rename_i rw m k g hb
        split at hx
        · rename_i hk
          cases hx
          exact ⟨_, load_window hu ha (n := n) (by simp [hi, hs, hk]) hr hb hL hin, by simp [AV.rel, AV.rel1, agg_one]⟩
        · cases hx
      · cases hx
    · rename_i bs
      split at hx
      · rename_i hsz
        split at hx
        · rename_i rs hg
          cases hx
          obtain ⟨_, blk, base, rfl, hch⟩ := hy
          exact ⟨_, load_whole hu ha (by simp [hi, hs, hsz]) hr hg hch, rfl⟩
        · cases hx
      · cases hx
    · cases hx
  · rename_i fs rs0 hl
    obtain ⟨⟨gs, hu, _⟩, ⟨i, hi, hs, _⟩⟩ := lay_struct (laysOk_at hE hl)
    have ha : aggT E.P t = true := by simp [aggT, hu]
    split at hx
    · rename_i b o n
      obtain ⟨L, B, X, hL, rfl, hin⟩ := hy
      split at hx
      · rename_i rw m k g hb
        split at hx
        · rename_i hk
          cases hx
          exact ⟨_, load_window hu ha (n := n) (by simp [hi, hs, hk]) hr hb hL hin, by simp [AV.rel, AV.rel1, agg_one]⟩
        · cases hx
      · cases hx
    · rename_i bs
      split at hx
      · rename_i hsz
        split at hx
        · rename_i rs hg
          cases hx
          obtain ⟨_, blk, base, rfl, hch⟩ := hy
          exact ⟨_, load_whole hu ha (by simp [hi, hs, hsz]) hr hg hch, rfl⟩
        · cases hx
      · cases hx
    · cases hx
  · cases hx
  · cases hx
  · cases hx
  · cases hx
  · rename_i l h1 h2 h3 h5 h6 h4 hl
    have hc := laysOk_at hE hl
    have ho : l.one = true := by
      cases l <;> first | rfl | (exfalso; first | exact h1 _ rfl | exact h2 _ _ _ _ rfl | exact h3 _ _ rfl | exact h4 rfl | exact h5 _ _ rfl | exact h6 _ _ rfl)
    split at hx
    · rename_i b n
      obtain ⟨blk, base, hL, rfl⟩ := sptr_one hy
      split at hx
      · rename_i rw vs hb
        split at hx
        · rename_i hn
          exact load_avs hc ho hr hb hL (lin_0 (by omega)) hx
        · cases hx
      · cases hx
    · rename_i b o n
      obtain ⟨L, B, X, hL, rfl, hin⟩ := hy
      split at hx
      · rename_i rw vs hb
        split at hx
        · rename_i hn
          exact load_avs hc ho hr hb hL (span_at hin hn) hx
        · cases hx
      · rename_i rw m g hb
        split at hx
        · rename_i hn
          cases hx
          exact ⟨_, load_flat hc ho hr hb hL (span_at hin hn), rfl⟩
        · cases hx
      · rename_i rw m g hb
        split at hx
        · rename_i hn
          cases hx
          exact ⟨_, load_flat hc ho hr hb hL (span_at hin hn), rfl⟩
        · cases hx
      · rename_i rw p n' q of ln cp hb
        split at hx
        · rename_i hn
          cases hx
          exact load_hdr hc ho hr hb hL (span_at hin hn)
        · cases hx
      · cases hx
    · cases hx
end
end Go.Proofs.YtoeailachidcdaaGreatDoor.Hg
