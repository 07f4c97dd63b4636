import Derived.Test.YtfdkkcaolajhoaaDoorHgQuiet
import Derived.Laws.BytesString
namespace Go.Proofs.YtfdkkcaolajhoaaDoor.Hg
set_option linter.unusedVariables false
set_option linter.unusedSimpArgs false
set_option linter.unusedSectionVars false
open Go Go.RowKit
variable [Gl : Glob]
section
variable {ρ : Type}
def capsOf : List AV → Option (List (List (Nat × Nat)))
  | [] => some []
  | .sptr bs :: r => (match capsOf r with | some x => some (bs :: x) | none => none)
  | _ :: _ => none
def xlen (E : Env) (t : TypeId) (x : AV) : Option Int :=
  match E.lay t with
  | some (.slice ..) => (match x with
    | .slice _ _ _ len _ _ => some len
    | .nils => some 0
    | _ => none)
  | some (.arr len ..) => some len
  | some .str => (match x with | .str s => some s.size | _ => none)
  | _ => none
def bytesOf (g : Nat → Int) (o n : Nat) : ByteArray := ((List.range n).map fun i => g (o + i)).foldl (fun r x => r.push (UInt8.ofNat x.toNat)) ByteArray.empty
def xq (E : Env) (s : St) (o : Op) (k : AV → Heap → Option ρ) : Option ρ :=
  match o with
  | .move x => k (s.ev x) []
  | .assign x => k (s.ev x) []
  | .pick c a b => (match s.ev c with
    | .bool t => (match pick1 t (s.ev a) (s.ev b) with
      | some v => k v []
      | none => if t = true then k (s.ev a) [] else k (s.ev b) [])
    | _ => none)
  | .alloc t => (match zeroBlks E t with | some nb => if nb.isEmpty = true then none else k (.sptr (names s.h.length nb)) nb | none => none)
  | .box _ x => (match boxBlks (s.ev x) with | some nb => if nb.isEmpty = true then none else k (.sptr (names s.h.length nb)) nb | none => none)
  | .build t ps => (match xbuild E t (evParts s ps.toList) with | some v => k v [] | none => none)
  | .buildSlice t len ps => (match xbuildSlice E s.h.length t len (evParts s ps.toList) with | some (v, nb) => k v nb | none => none)
  | .load t a => (match xload E s.h t (s.ev a) with | some v => k v [] | none => none)
  | .nilCheck x => (match s.ev x with
    | .sptr bs => k (.sptr bs) []
    | .ptr b o n => k (.ptr b o n) []
    | .fn f m caps => k (.fn f m caps) []
    | _ => none)
  | .binOp op t x y _ => xbinI E op t y (s.ev x) (s.ev y) (fun v => k v [])
  | .unOp op _ x => xun op (s.ev x) (fun v => k v [])
  | .convert src dst x => (match s.ev x with
    | .slice _ b o len _ esz => (match E.lay src, E.lay dst, s.h[b]? with
      | some (.slice e _ _), some .str, some ⟨_, .flat _ (.ints .u8 g)⟩ => (match E.lay e with
        | some (.int .u8) => if esz = 1 then k (.str (bytesOf g o len)) [] else none
        | _ => none)
      | _, _, _ => none)
    | v => xconv E src dst v (fun v => k v []))
  | .makeFunc (.func f) first caps => (match capsOf ((first.toList ++ caps.toList).map s.ev) with | some c => k (.fn f first.size c) [] | none => none)
  | .makeSlice t l c => xmakeSlice E s.h.length t (s.ev l) (s.ev c) k
  | .slice t x lo hi mx => xslice E t (s.ev x) (lo.map s.ev) (hi.map s.ev) (mx.map s.ev) (fun v => k v [])
  | .sliceToArrayPointer t x => (match E.lay t, s.ev x with
    | some (.arr n _ esz _), .slice _ b o len _ esz' => if esz' = esz then (if n ≤ len then k (.ptr b o (n * esz)) [] else none) else none
    | _, _ => none)
  | .fieldAddr t x f => (match xfieldAddr E t (s.ev x) f with | some v => k v [] | none => none)
  | .field t x f => (match xfield E t (s.ev x) f with | some v => k v [] | none => none)
  | .indexAddr t x ix => xindexAddr E t (s.ev x) (s.ev ix) (fun v => k v [])
  | .index t x ix => xindex E t (s.ev x) (s.ev ix) (fun v => k v [])
  | .extract x i => (match s.ev x with | .tup vs => (match vs[i]? with | some v => k v [] | none => none) | _ => none)
  | .call ⟨.builtin .len, args, ts⟩ => (match args[0]?, ts[0]? with
    | some x, some t => (match xlen E t (s.ev x) with | some n => k (.int .i64 n) [] | none => none)
    | _, _ => none)
  | .call ⟨.builtin .min, args, _⟩ => (match args.toList with
    | [x, y] => (match s.ev x, s.ev y with | .int q a, .int _ b => k (.int q (if b < a then b else a)) [] | _, _ => none)
    | _ => none)
  | .call ⟨.builtin .max, args, _⟩ => (match args.toList with
    | [x, y] => (match s.ev x, s.ev y with | .int q a, .int _ b => k (.int q (if b > a then b else a)) [] | _, _ => none)
    | _ => none)
  | _ => none
def NextOk (P : Program) (β : Names) (n : Nat) (w : World) (m : Sem Next) (v : AV) (nb : Heap) : Prop :=
  ∃ y w' γ, m.run P w = .ok (.value y) w' ∧ v.rel γ y ∧ NewOk β γ n nb w w' ∧ Below w.heap.size w w'
theorem NextOk.of_sem {P : Program} {β : Names} {n : Nat} {w : World} {m : Sem Value} {v : AV} {nb : Heap} (h : SemOk P β n w m v nb) : NextOk P β n w (do pure (.value (← m))) v nb := by
  obtain ⟨y, w', γ, h1, h2⟩ := h
  exact ⟨y, w', γ, by simp [h1], h2⟩
theorem NextOk.of_run {P : Program} {β : Names} {n : Nat} {w : World} {m : Sem Value} {v : AV} (hf : ∀ b, n ≤ b → β b = none) (h : ∃ u, m.run P w = .ok u w ∧ v.rel β u) : NextOk P β n w (do pure (.value (← m))) v [] := by
  obtain ⟨u, h1, h2⟩ := h
  exact .of_sem (.pure hf h1 h2)
theorem NextOk.of_pure {P : Program} {β : Names} {n : Nat} {w : World} {v : AV} {y : Value} (hf : ∀ b, n ≤ b → β b = none) (h2 : v.rel β y) : NextOk P β n w (pure (.value y)) v [] :=
  ⟨y, w, β, rfl, h2, NewOk.nil w hf, Below.refl _ _⟩
theorem caps_ok {β : Names} {s : St} {a : Act} {w : World} (hr : Rel β s a w) : ∀ {xs : List Operand} {cs : List (List (Nat × Nat))}, capsOf (xs.map s.ev) = some cs → all2 (ptrRel β) cs (xs.map a.eval)
  | [], cs, h => by simp [capsOf] at h; subst h; trivial
  | x :: xs, cs, h => by
    have hx := hr.ev x
    simp only [List.map_cons] at h ⊢
    cases hv : s.ev x <;> simp only [hv, capsOf] at h <;> try contradiction
    rename_i bs
    split at h
    · rename_i c hc
      cases h
      rw [hv] at hx
      exact ⟨hx, caps_ok hr hc⟩
    · cases h
theorem xlen_ok {E : Env} (hE : laysOk E.P E.lays = true) {t : TypeId} {x : AV} {n : Int} (h : xlen E t x = some n) (β : Names) (w : World) (y : Value) (hy : x.rel β y) (ts : Array TypeId) (ht : ts[0]? = some t) (ys : Array Value) (hys : ys[0]? = some y) (ty : TypeId) :
    (Builtin.len_ ts ty ys).run E.P w = .ok (.int .i64 n) w := by
  unfold xlen at h
  split at h
  · rename_i hl
    obtain ⟨hu, _⟩ := lay_slice (laysOk_at hE hl)
    have e1 := run_underlying hu w
    split at h
    · cases h
      obtain ⟨L, a, c, B, X, _, rfl, _⟩ := hy
      simp [Builtin.len_, ht, hys, e1, goInt]
    · cases h
      cases hy
      simp [Builtin.len_, ht, hys, e1, goInt]
    · cases h
  · rename_i hl
    obtain ⟨hu, _⟩ := lay_arr (laysOk_at hE hl)
    have e1 := run_underlying hu w
    cases h
    simp [Builtin.len_, ht, hys, e1, goInt]
  · rename_i hl
    obtain ⟨hu, _⟩ := lay_str (laysOk_at hE hl)
    have e1 := run_underlying hu w
    split at h
    · cases h
      cases hy
      simp [Builtin.len_, ht, hys, e1, goInt]
    · cases h
  · cases h
theorem pick1_ok {β : Names} {t : Bool} {x y v : AV} (h : pick1 t x y = some v) {a b : Value} (hx : x.rel β a) (hy : y.rel β b) : v.rel β (if t then a else b) := by
  unfold pick1 at h
  split at h
  · cases h; cases hx; cases hy
    cases t <;> rfl
  · cases h
set_option maxHeartbeats 1000000 in
theorem xq_ok {E : Env} (hE : laysOk E.P E.lays = true) {s : St} {op : Op} {k : AV → Heap → Option ρ} {r : ρ} (h : xq E s op k = some r) :
    ∃ v nb, k v nb = some r ∧ ∀ (dst : Option Tmp) (ty : TypeId) (pos : String) (af : Array Edge) (g : Option (Nat × Bool)) (β : Names) (a : Act) (w : World), Rel β s a w → NextOk E.P β s.h.length w (execOp a.eval ⟨dst, op, ty, pos, af, g⟩) v nb := by
  unfold xq at h
  split at h
  · exact ⟨_, _, h, fun _ _ _ _ _ β a w hr => .of_pure hr.heap.fresh (hr.ev _)⟩
  · exact ⟨_, _, h, fun _ _ _ _ _ β a w hr => .of_pure hr.heap.fresh (hr.ev _)⟩
  · rename_i c x y
    split at h
    · rename_i t hc
      have hbool : ∀ (β : Names) (a : Act) (w : World), Rel β s a w → a.eval c = .bool t := fun β a w hr => by have := hr.ev c; rw [hc] at this; exact this
      split at h
      · rename_i v hp
        refine ⟨_, _, h, fun _ _ _ _ _ β a w hr => ?_⟩
        have e : execOp a.eval ⟨‹_›, .pick c x y, ‹_›, ‹_›, ‹_›, ‹_›⟩ = (pure (.value (if t then a.eval x else a.eval y)) : Sem Next) := by
          simp only [execOp, hbool β a w hr, asBool]; rfl
        rw [e]
        exact .of_pure hr.heap.fresh (pick1_ok hp (hr.ev x) (hr.ev y))
      · split at h
        · rename_i ht
          refine ⟨_, _, h, fun _ _ _ _ _ β a w hr => ?_⟩
          have e : execOp a.eval ⟨‹_›, .pick c x y, ‹_›, ‹_›, ‹_›, ‹_›⟩ = (pure (.value (a.eval x)) : Sem Next) := by
            simp only [execOp, hbool β a w hr, asBool, ht]; rfl
          rw [e]
          exact .of_pure hr.heap.fresh (hr.ev x)
        · rename_i ht
          refine ⟨_, _, h, fun _ _ _ _ _ β a w hr => ?_⟩
          have e : execOp a.eval ⟨‹_›, .pick c x y, ‹_›, ‹_›, ‹_›, ‹_›⟩ = (pure (.value (a.eval y)) : Sem Next) := by
            simp only [execOp, hbool β a w hr, asBool, show t = false by simpa using ht]; rfl
          rw [e]
          exact .of_pure hr.heap.fresh (hr.ev y)
    · cases h
  · rename_i t
    split at h
    · rename_i nb hz
      split at h
      · cases h
      · rename_i hne
        obtain ⟨z, h1, h2⟩ := zeroBlks_ok hE hz
        refine ⟨_, _, h, fun _ _ _ _ _ β a w hr => ?_⟩
        refine .of_sem ?_
        obtain ⟨y, w', γ, h3, h4⟩ := newVar_ok (P := E.P) (w := w) (t := t) hr.heap.fresh (h2 β) (by intro e; simp [e] at hne)
        refine ⟨y, w', γ, ?_, h4⟩
        simp only [Instr.alloc, Sem.run_bind, h1 w, Result.andThen_ok]
        simpa using h3
    · cases h
  · rename_i t x
    split at h
    · rename_i nb hz
      split at h
      · cases h
      · rename_i hne
        refine ⟨_, _, h, fun _ _ _ _ _ β a w hr => ?_⟩
        refine .of_sem ?_
        rcases boxBlks_rel hz (hr.ev x) with ⟨h1, h2⟩ | ⟨rs, _, h0⟩
        · exact newVar_ok (P := E.P) (w := w) (t := t) hr.heap.fresh h1 h2
        · simp [h0] at hne
    · cases h
  · rename_i t ps
    split at h
    · rename_i v hb
      refine ⟨_, _, h, fun _ _ _ _ _ β a w hr => .of_run hr.heap.fresh ?_⟩
      exact xbuild_ok hE hb β w _ (evParts_rel hr ps)
    · cases h
  · rename_i t len ps
    split at h
    · rename_i v nb hb
      exact ⟨_, _, h, fun _ _ _ _ _ β a w hr => .of_sem (xbuildSlice_ok hE hb hr.heap.fresh w _ (evParts_rel hr ps))⟩
    · cases h
  · rename_i t x
    split at h
    · rename_i v hb
      exact ⟨_, _, h, fun _ _ _ _ _ β a w hr => .of_run hr.heap.fresh (xload_ok hE hr.heap hb (hr.ev x))⟩
    · cases h
  · rename_i x
    split at h
    · rename_i bs hx
      refine ⟨_, _, h, fun _ _ _ _ _ β a w hr => ?_⟩
      have hv := hr.ev x
      rw [hx] at hv
      obtain ⟨h1, blk, base, h2, h3⟩ := hv
      simp only [execOp, h2]
      exact .of_pure hr.heap.fresh ⟨h1, blk, base, rfl, h3⟩
    · rename_i b o n hx
      refine ⟨_, _, h, fun _ _ _ _ _ β a w hr => ?_⟩
      have hv := hr.ev x
      rw [hx] at hv
      obtain ⟨L, B, X, h1, h2, h3⟩ := hv
      simp only [execOp, h2]
      exact .of_pure hr.heap.fresh ⟨L, B, X, h1, rfl, h3⟩
    · rename_i f caps hx
      refine ⟨_, _, h, fun _ _ _ _ _ β a w hr => ?_⟩
      have hv := hr.ev x
      rw [hx] at hv
      obtain ⟨vs, h1, h2⟩ := hv
      simp only [execOp, h1]
      exact .of_pure hr.heap.fresh ⟨vs, rfl, h2⟩
    · cases h
  · rename_i bop t x y yt
    obtain ⟨v, h1, h2⟩ := xbinI_ok hE (ox := x) (oy := y) h
    exact ⟨_, _, h1, fun _ _ _ _ _ β a w hr => .of_run hr.heap.fresh (h2 β w _ _ (hr.ev x) (hr.ev y))⟩
  · rename_i uop t x
    obtain ⟨v, h1, h2⟩ := xun_ok (P := E.P) h
    exact ⟨_, _, h1, fun _ _ _ _ _ β a w hr => .of_run hr.heap.fresh (h2 β w _ (hr.ev x))⟩
  · rename_i src dst x
    split at h
    · rename_i nn b o len cap esz hx
      split at h
      · rename_i e es eb rw m g hs hd hb
        split at h
        · rename_i he
          split at h
          · rename_i hesz
            subst hesz
            refine ⟨_, _, h, fun _ _ _ _ _ β a w hr => .of_run hr.heap.fresh ?_⟩
            obtain ⟨hus, _⟩ := lay_slice (laysOk_at hE hs)
            obtain ⟨hue, _⟩ := lay_int (laysOk_at hE he)
            obtain ⟨hud, _⟩ := lay_str (laysOk_at hE hd)
            have hv := hr.ev x
            rw [hx] at hv
            obtain ⟨L, ao, c, B, X, hL, h2, hle, hnn, ha, hcap⟩ := hv
            have hsp := capRel_span hle hcap
            obtain ⟨L', hL', hrel⟩ := hr.heap.blk b _ hb (by simp)
            rw [hL] at hL'; cases hL'
            refine ⟨.string (bytesOf g o len), ?_, rfl⟩
            rw [h2]
            have e0 := run_convert_bytes_string (P := E.P) w src dst e ao len c hus hue hud
            rcases ha with ha | ha
            · have h0 : len = 0 := by omega
              subst h0
              rw [e0]
              cases ao with
              | none => simp [Conv.bytesToString, bytesOf]
              | some a =>
                have := run_bytesToString (P := E.P) w a 0 c [] (by simpa using run_loadCells_list (P := E.P) w a [] (by simp))
                rw [this]; simp [bytesOf]
            · subst ha
              rw [e0]
              exact run_bytesToString (P := E.P) w _ len c ((List.range len).map fun i => g (o + i)) (by
                have := run_loadCells_list (P := E.P) w ⟨B, X, none⟩ (((List.range len).map fun i => g (o + i)).map fun n => Value.int .u8 n) (fun j v hj => by
                  rw [add_mk]
                  have hlt : j < len := by have := (List.getElem?_eq_some_iff.1 hj).1; simpa using this
                  simp [hlt] at hj
                  subst hj
                  exact hrel.cont (o + j) B (X + j) (hsp j (by omega)))
                simpa using this)
          · cases h
        · cases h
      · cases h
    obtain ⟨v, h1, h2⟩ := xconv_ok hE h
    exact ⟨_, _, h1, fun _ _ _ _ _ β a w hr => .of_run hr.heap.fresh (h2 β w _ (hr.ev x))⟩
  · rename_i f first caps
    split at h
    · rename_i c hc
      refine ⟨_, _, h, fun _ _ _ _ _ β a w hr => .of_run hr.heap.fresh ?_⟩
      refine ⟨.func (.func f) (first.map a.eval) (caps.map a.eval), by simp [Instr.makeFunc], (first.toList ++ caps.toList).map a.eval, ?_, caps_ok hr hc⟩
      have e1 : (((first.toList ++ caps.toList).map a.eval).take first.size).toArray = first.map a.eval := by
        apply Array.toList_inj.1
        rw [List.map_append, List.take_left' (by simp)]
        simp
      have e2 : (((first.toList ++ caps.toList).map a.eval).drop first.size).toArray = caps.map a.eval := by
        apply Array.toList_inj.1
        rw [List.map_append, List.drop_left' (by simp)]
        simp
      rw [e1, e2]
    · cases h
  · rename_i t l c
    obtain ⟨v, nb, h1, h2⟩ := xmakeSlice_ok hE h
    exact ⟨_, _, h1, fun _ _ _ _ _ β a w hr => .of_sem (h2 β hr.heap.fresh w _ _ (hr.ev l) (hr.ev c))⟩
  · rename_i t x lo hi mx
    obtain ⟨v, h1, hmx, h2⟩ := xslice_ok hE h
    have hmx' : mx = none := by simpa using hmx
    subst hmx'
    refine ⟨_, _, h1, fun _ _ _ _ _ β a w hr => .of_run hr.heap.fresh ?_⟩
    refine h2 β w _ (lo.map a.eval) (hi.map a.eval) (hr.ev x) ?_ ?_ ?_ ?_
    · intro v hv
      cases lo with
      | none => simp at hv
      | some q => simp at hv; subst hv; exact ⟨_, rfl, hr.ev q⟩
    · intro hv; cases lo with | none => rfl | some q => simp at hv
    · intro v hv
      cases hi with
      | none => simp at hv
      | some q => simp at hv; subst hv; exact ⟨_, rfl, hr.ev q⟩
    · intro hv; cases hi with | none => rfl | some q => simp at hv
  · rename_i t x
    split at h
    · rename_i n e esz kd nn b o len cap esz' hl hx
      split at h
      · rename_i he
        subst he
        split at h
        · rename_i hn
          refine ⟨_, _, h, fun _ _ _ _ _ β a w hr => .of_run hr.heap.fresh ?_⟩
          obtain ⟨hu, _, _, _, hpos, hnpos, _⟩ := lay_arr (laysOk_at hE hl)
          have hv := hr.ev x
          rw [hx] at hv
          obtain ⟨L, ao, c, B, X, hL, h2, hle, hnn, ha, hcap⟩ := hv
          have hc : ao = some ⟨B, X, none⟩ := ha.resolve_left (by omega)
          subst hc
          have e1 := run_underlying hu w
          refine ⟨.pointer (some ⟨B, X, none⟩), ?_, L, B, X, hL, rfl, ?_⟩
          · have hlt : ¬ len < n := by omega
            rw [h2]; simp [Instr.arrayAt, e1, hlt]
          · have := capRel_span hle hcap
            have hm := Nat.mul_le_mul_right esz' hn
            exact fun j hj => this j (by omega)
        · cases h
      · cases h
    · cases h
  · rename_i t x f
    split at h
    · rename_i v hb
      exact ⟨_, _, h, fun _ _ _ _ _ β a w hr => .of_run hr.heap.fresh (xfieldAddr_ok hE hb β w _ (hr.ev x))⟩
    · cases h
  · rename_i t x f
    split at h
    · rename_i v hb
      exact ⟨_, _, h, fun _ _ _ _ _ β a w hr => .of_run hr.heap.fresh (xfield_ok hE hb β w _ (hr.ev x))⟩
    · cases h
  · rename_i t x ix
    obtain ⟨v, h1, h2⟩ := xindexAddr_ok hE h
    exact ⟨_, _, h1, fun _ _ _ _ _ β a w hr => .of_run hr.heap.fresh (h2 β w _ _ (hr.ev x) (hr.ev ix))⟩
  · rename_i t x ix
    obtain ⟨v, h1, h2⟩ := xindex_ok hE h
    exact ⟨_, _, h1, fun _ _ _ _ _ β a w hr => .of_run hr.heap.fresh (h2 β w _ _ (hr.ev x) (hr.ev ix))⟩
  · rename_i x i
    split at h
    · rename_i vs hx
      split at h
      · rename_i v hv
        refine ⟨_, _, h, fun _ _ _ _ _ β a w hr => .of_run hr.heap.fresh ?_⟩
        have h1 := hr.ev x
        rw [hx] at h1
        obtain ⟨xs, h2, h3⟩ := h1
        obtain ⟨c, h4, h5⟩ := all2_get h3 hv
        exact ⟨c, by simp [Instr.extract, h2, h4], rel_of_rel1 h5⟩
      · cases h
    · cases h
  · rename_i args ts
    split at h
    · rename_i x t hx ht
      split at h
      · rename_i n hn
        refine ⟨_, _, h, fun _ ty _ _ _ β a w hr => ?_⟩
        have hl := xlen_ok hE hn β w (a.eval x) (hr.ev x) ts ht (args.map a.eval) (by simp [hx]) ty
        refine ⟨.int .i64 n, w, β, ?_, rfl, NewOk.nil w hr.heap.fresh, Below.refl _ _⟩
        simp [execOp, resolve, invoke, builtin, hl]
      · cases h
    · cases h
  · rename_i args ts
    split at h
    · rename_i x y ha
      split at h
      · rename_i q a1 q' b1 hx hy
        refine ⟨_, _, h, fun _ ty _ _ _ β a w hr => ?_⟩
        have h1 := hr.ev x
        have h2 := hr.ev y
        rw [hx] at h1
        rw [hy] at h2
        have e1 : a.eval x = .int q a1 := h1
        have e2 : a.eval y = .int q' b1 := h2
        refine ⟨.int q (if b1 < a1 then b1 else a1), w, β, ?_, rfl, NewOk.nil w hr.heap.fresh, Below.refl _ _⟩
        simp [execOp, resolve, invoke, builtin, Builtin.min_, ha, e1, e2, Builtin.min2]
      · cases h
    · cases h
  · rename_i args ts
    split at h
    · rename_i x y ha
      split at h
      · rename_i q a1 q' b1 hx hy
        refine ⟨_, _, h, fun _ ty _ _ _ β a w hr => ?_⟩
        have h1 := hr.ev x
        have h2 := hr.ev y
        rw [hx] at h1
        rw [hy] at h2
        have e1 : a.eval x = .int q a1 := h1
        have e2 : a.eval y = .int q' b1 := h2
        refine ⟨.int q (if b1 > a1 then b1 else a1), w, β, ?_, rfl, NewOk.nil w hr.heap.fresh, Below.refl _ _⟩
        simp [execOp, resolve, invoke, builtin, Builtin.max_, ha, e1, e2, Builtin.max2]
      · cases h
    · cases h
  · cases h
end
end Go.Proofs.YtfdkkcaolajhoaaDoor.Hg
