/- One operation on a state, stores and calls among them, held against the model's 'Oper.wp'. -/
import Derived.Test.YtjnfeffflkgddaaHxInvoke
namespace Go.Proofs.Ytjnfeffflkgddaa.Hx
set_option linter.unusedVariables false
set_option linter.unusedSimpArgs false
open Go Go.RowKit

section
variable {ρ : Type}

/-! stores -/

def scatter (h : Heap) : List (Nat × Nat) → List Run → Option Heap
  | [], [] => some h
  | (b, n) :: bs, r :: rs => (match h[b]? with
    | some ⟨true, .ints k m _⟩ => if r.kind = k ∧ r.size = n ∧ 0 < n then scatter (h.set b ⟨true, .ints k m r.get⟩) bs rs else none
    | _ => none)
  | _, _ => none

def xstore (E : Env) (h : Heap) (t : TypeId) (x v : AV) : Option Heap :=
  match E.lay t with
  | some (.int kd) => (match v with
    | .int kv n => if kv = kd then (match x with
      | .ptr b o m => (match h[b]? with
        | some ⟨true, .ints k sz g⟩ => if k = kd ∧ 1 ≤ m then some (h.set b ⟨true, .ints k sz (upd g o n)⟩) else none
        | _ => none)
      | .sptr [(b, m)] => (match h[b]? with
        | some ⟨true, .ints k sz _⟩ => if k = kd ∧ m = 1 then some (h.set b ⟨true, .ints k sz (fun _ => n)⟩) else none
        | _ => none)
      | _ => none) else none
    | _ => none)
  | some (.arr len _ esz kd) => (match v with
    | .agg [r] => if r.kind = kd ∧ r.size = len * esz then (match x with
      | .ptr b o m => (match h[b]? with
        | some ⟨true, .ints k sz g⟩ => if k = kd ∧ m = len * esz then some (h.set b ⟨true, .ints k sz (updN g o m r.get)⟩) else none
        | _ => none)
      | .sptr bs => if sizes bs = len * esz then scatter h bs [r] else none
      | _ => none) else none
    | _ => none)
  | some (.struct _ rs0) => (match v with
    | .agg rs => (match x with
      | .sptr bs => if sizes bs = total rs0 then scatter h bs rs else none
      | _ => none)
    | _ => none)
  | some .other | none => none
  | some _ => if oneAV v = true then (match x with
    | .sptr [(b, m)] => (match h[b]? with
      | some ⟨true, .avs vs⟩ => if m = 1 then some (h.set b ⟨true, .avs (vs.set 0 v)⟩) else none
      | _ => none)
    | .ptr b o m => (match h[b]? with
      | some ⟨true, .avs vs⟩ => if 1 ≤ m then some (h.set b ⟨true, .avs (vs.set o v)⟩) else none
      | _ => none)
    | _ => none) else none

theorem one_of_rel1 {β : Names} {v : AV} {u : Value} (h : v.rel1 β u) (ho : oneAV v = true) : u.oneCell' = true ∧ u.cells = #[u] := by
  cases v <;> simp only [oneAV] at ho <;> try contradiction
  case int => cases h; exact ⟨rfl, rfl⟩
  case bool => cases h; exact ⟨rfl, rfl⟩
  case str => cases h; exact ⟨rfl, rfl⟩
  case ptr => obtain ⟨_, _, rfl, _⟩ := h; exact ⟨rfl, rfl⟩
  case sptr => obtain ⟨_, _, _, rfl, _⟩ := h; exact ⟨rfl, rfl⟩
  case slice => obtain ⟨_, _, _, _, rfl, _⟩ := h; exact ⟨rfl, rfl⟩
  case nils => cases h; exact ⟨rfl, rfl⟩
  case fn => obtain ⟨_, rfl, _⟩ := h; exact ⟨rfl, rfl⟩

theorem run_one (k : IntKind) (n : Nat) (g : Nat → Int) : ∀ v ∈ Run.cells ⟨k, n, g⟩, v.oneCell' = true := by
  intro v hv
  simp only [Run.cells, List.mem_map] at hv
  obtain ⟨i, _, rfl⟩ := hv
  rfl

theorem run_storeAt {P : Program} {w w' : World} {t : TypeId} {a : Addr} {v : Value} (hs : (P.info? t).map (·.size) = some v.cells.size) (h : (storeCells a v.cells.toList).run P w = .ok () w') : (Instr.storeAt t (.pointer (some a)) v).run P w = .ok () w' := by
  obtain ⟨i, hi, hsz⟩ := info_of_size hs
  have e2 := run_sizeOf' (w := w) hi
  simp [Instr.storeAt, Instr.sureAddr, storeVar, e2, hsz, h]

/-- ints written into a block of ints -/
theorem ints_write {P : Program} {β : Names} {h : Heap} {w : World} {b o n m : Nat} {k : IntKind} {g q : Nat → Int} {L : Loc} (r : HRel β h w) (hb : h[b]? = some ⟨true, .ints k m g⟩) (hL : β b = some L) (hin : o + n ≤ L.cells) (hpos : 0 < n) :
    ∃ w', (storeCells (L.at o) (Run.cells ⟨k, n, q⟩)).run P w = .ok () w' ∧ (∀ g', (∀ i, i < L.cells → g' i = updN g o n q i) → HRel β (h.set b ⟨true, .ints k m g'⟩) w') ∧ Ext (Mine β h) w w' := by
  obtain ⟨L', hL', hr⟩ := r.blk b _ hb (by simp)
  rw [hL] at hL'; cases hL'
  simp only [Blk.rel] at hr
  have hlen : (Run.cells ⟨k, n, q⟩).length = n := Run.cells_length _
  have key : ∀ g', (∀ i, i < L.cells → g' i = updN g o n q i) → (storeCells (L.at o) (Run.cells ⟨k, n, q⟩)).run P w = .ok () (setCells w L.blk (L.base + o) (Run.cells ⟨k, n, q⟩)) ∧ HRel β (h.set b ⟨true, .ints k m g'⟩) (setCells w L.blk (L.base + o) (Run.cells ⟨k, n, q⟩)) ∧ Ext (Mine β h) w (setCells w L.blk (L.base + o) (Run.cells ⟨k, n, q⟩)) := by
    intro g' hg'
    refine write_ok (P := P) r hb rfl hL (by simp) (by omega) (by omega) (run_one _ _ _) (by simp [Blk.ext]) ?_
    simp only [Blk.rel]
    refine ⟨hr.1, fun i hi => ?_⟩
    have hfr : (setCells w L.blk (L.base + o) (Run.cells ⟨k, n, q⟩)).frozen? (L.at i) = false := by rw [setCells_frozen]; exact (hr.2 i hi).2 (by trivial)
    refine ⟨?_, fun _ => hfr⟩
    rw [hg' i (by omega)]
    by_cases hio : o ≤ i ∧ i < o + n
    · have := setCells_same (Run.cells ⟨k, n, q⟩) w L.blk (L.base + o) (i - o) _ (Run.cells_get ⟨k, n, q⟩ (by show i - o < n; omega)) (fun j hj => by
        have := (hr.2 (o + j) (by omega)).1
        exact ⟨_, by rw [show L.base + o + j = L.base + (o + j) by omega]; exact this⟩)
      rw [show L.base + o + (i - o) = L.base + i by omega] at this
      rw [show L.at i = ⟨L.blk, L.base + i, none⟩ from rfl, this]
      simp only [updN]; rw [if_pos hio]
    · rw [setCells_other _ _ _ _ _ (by simp only [Loc.at]; omega), (hr.2 i hi).1]
      simp only [updN]; rw [if_neg hio]
  obtain ⟨k1, _, k3⟩ := key (updN g o n q) fun _ _ => rfl
  exact ⟨_, k1, fun g' hg' => (key g' hg').2.1, k3⟩

/-- a value written into a block of values -/
theorem avs_write {P : Program} {β : Names} {h : Heap} {w : World} {b o : Nat} {vs : List AV} {v : AV} {u : Value} {L : Loc} (r : HRel β h w) (hb : h[b]? = some ⟨true, .avs vs⟩) (hL : β b = some L) (hin : o < L.cells) (hv : v.rel1 β u) (ho : oneAV v = true) :
    ∃ w', (storeCells (L.at o) [u]).run P w = .ok () w' ∧ HRel β (h.set b ⟨true, .avs (vs.set o v)⟩) w' ∧ Ext (Mine β h) w w' := by
  obtain ⟨L', hL', hr⟩ := r.blk b _ hb (by simp)
  rw [hL] at hL'; cases hL'
  simp only [Blk.rel] at hr
  obtain ⟨h1, _⟩ := one_of_rel1 hv ho
  refine ⟨_, write_ok (P := P) (x' := ⟨true, .avs (vs.set o v)⟩) r hb rfl hL (by simp) (by simp; omega) (by simp) (by simpa using h1) (by simp [Blk.ext]) ?_⟩
  simp only [Blk.rel]
  refine ⟨by simp [hr.1], fun i x hx => ?_⟩
  by_cases hio : i = o
  · subst hio
    have hlt : i < vs.length := by omega
    rw [List.getElem?_set_self hlt] at hx
    obtain rfl : v = x := by simpa using hx
    obtain ⟨z, hz⟩ : ∃ z, vs[i]? = some z := ⟨vs[i], List.getElem?_eq_getElem hlt⟩
    obtain ⟨u0, e1, e2, e3⟩ := hr.2 i z hz
    refine ⟨u, ?_, hv, fun _ => by rw [setCells_frozen]; exact e3 (by trivial)⟩
    have := setCells_same [u] w L.blk (L.base + i) 0 u rfl (fun j hj => by
      have : j = 0 := by simpa using hj
      subst this
      exact ⟨u0, e1⟩)
    exact (by simpa using this : (setCells w L.blk (L.base + i) [u]).cell? ⟨L.blk, L.base + i, none⟩ = some u)
  · rw [List.getElem?_set_ne (fun e => hio e.symm)] at hx
    obtain ⟨u0, e1, e2, e3⟩ := hr.2 i x hx
    refine ⟨u0, ?_, e2, fun _ => by rw [setCells_frozen]; exact e3 (by trivial)⟩
    rw [setCells_other _ _ _ _ _ (by simp only [Loc.at, List.length_cons, List.length_nil]; omega)]
    exact e1

theorem ext_after {β : Names} {h h' : Heap} {w w1 w2 : World} (e1 : Ext (Mine β h) w w1) (m1 : ∀ a, Mine β h' a → Mine β h a) (e2 : Ext (Mine β h') w1 w2) : Ext (Mine β h) w w2 :=
  e1.trans e2 fun a ha => .inl (m1 a ha)

theorem storeCells_append (B o : Nat) : ∀ (xs ys : List Value) (i : Nat), storeCells ⟨B, o, none⟩ (xs ++ ys) i = (do storeCells ⟨B, o, none⟩ xs i; storeCells ⟨B, o, none⟩ ys (i + xs.length))
  | [], ys, i => by simp [storeCells]
  | x :: xs, ys, i => by
    simp only [List.cons_append, storeCells, storeCells_append B o xs ys (i + 1), bind_assoc, List.length_cons]
    rw [show i + 1 + xs.length = i + (xs.length + 1) by omega]

theorem storeCells_shift (B : Nat) : ∀ (xs : List Value) (o i : Nat), storeCells ⟨B, o, none⟩ xs i = storeCells ⟨B, o + i, none⟩ xs 0
  | [], _, _ => rfl
  | x :: xs, o, i => by
    simp only [storeCells, add_mk, Nat.add_zero, Nat.zero_add]
    rw [storeCells_shift B xs o (i + 1), storeCells_shift B xs (o + i) 1]
    rw [show o + (i + 1) = o + i + 1 by omega]

theorem scatter_ok {P : Program} {β : Names} : ∀ {bs : List (Nat × Nat)} {rs : List Run} {h h' : Heap} {w : World} {blk base : Nat}, scatter h bs rs = some h' → HRel β h w → chained β blk base bs →
    (cellsOf rs).length = sizes bs ∧ ∀ (o0 i0 : Nat), o0 + i0 = base → ∃ w', (storeCells ⟨blk, o0, none⟩ (cellsOf rs) i0).run P w = .ok () w' ∧ HRel β h' w' ∧ Ext (Mine β h) w w' ∧ (∀ a, Mine β h' a → Mine β h a) ∧ h'.length = h.length
  | [], [], h, h', w, blk, base, hs, hr, _ => by
    simp [scatter] at hs; subst hs
    exact ⟨by simp [cellsOf, sizes], fun o0 i0 _ => ⟨w, by simp [cellsOf, storeCells], hr, Ext.refl _ _, fun _ h => h, rfl⟩⟩
  | [], _ :: _, _, _, _, _, _, hs, _, _ => by simp [scatter] at hs
  | _ :: _, [], _, _, _, _, _, hs, _, _ => by simp [scatter] at hs
  | (b, n) :: bs, r :: rs, h, h', w, blk, base, hs, hr, ⟨h1, h2⟩ => by
    simp only [scatter] at hs
    split at hs
    · rename_i k m g hb
      split at hs
      · rename_i hc
        obtain ⟨hc1, hc2, hc3⟩ := hc
        obtain ⟨w1, s1, s2, s3⟩ := ints_write (P := P) (q := r.get) (n := n) (o := 0) hr hb h1 (by simp) hc3
        have hr1 := s2 r.get (fun i hi => by simp only [updN]; rw [if_pos ⟨by omega, by simpa using hi⟩]; simp)
        obtain ⟨L', hL', hrel⟩ := hr.blk b _ hb (by simp)
        rw [h1] at hL'; cases hL'
        simp only [Blk.rel] at hrel
        have hm1 : ∀ a, Mine β (h.set b ⟨true, .ints k m r.get⟩) a → Mine β h a := fun a => Mine.put hb rfl h1 (by simp [Blk.ext]) a
        obtain ⟨i1, i2⟩ := scatter_ok (P := P) hs hr1 h2
        have hcr : r.cells = Run.cells ⟨k, n, r.get⟩ := by subst hc1; subst hc2; rfl
        have hcc : cellsOf (r :: rs) = Run.cells ⟨k, n, r.get⟩ ++ cellsOf rs := by simp [cellsOf, hcr]
        refine ⟨by rw [hcc]; simp [sizes, Run.cells_length, i1], fun o0 i0 hoi => ?_⟩
        obtain ⟨w2, t1, t2, t3, t4, t5⟩ := i2 o0 (i0 + n) (by omega)
        refine ⟨w2, ?_, t2, ext_after s3 hm1 t3, fun a ha => hm1 a (t4 a ha), by rw [t5]; simp⟩
        rw [hcc, storeCells_append, Run.cells_length, Sem.run_bind]
        have s1' : (storeCells ⟨blk, o0, none⟩ (Run.cells ⟨k, n, r.get⟩) i0).run P w = .ok () w1 := by
          rw [storeCells_shift]
          rw [← s1]; simp [Loc.at, hoi]
        rw [s1', Result.andThen_ok, t1]
      · cases hs
    · cases hs


/-- what stands behind a write -/
def Wrote (β : Names) (h h' : Heap) (w w' : World) : Prop := HRel β h' w' ∧ Ext (Mine β h) w w' ∧ (∀ a, Mine β h' a → Mine β h a) ∧ h'.length = h.length

theorem xstore_ok {E : Env} (hE : laysOk E.P E.lays = true) {h h' : Heap} {t : TypeId} {x v : AV} (hx : xstore E h t x v = some h') {β : Names} {w : World} (hr : HRel β h w) {y z : Value} (hy : x.rel β y) (hz : v.rel β z) :
    ∃ w', (Instr.storeAt t y z).run E.P w = .ok () w' ∧ Wrote β h h' w w' := by
  have fin_ints : ∀ {b o n m : Nat} {k : IntKind} {g q g' : Nat → Int} {L : Loc} {z : Value}, h[b]? = some ⟨true, .ints k m g⟩ → β b = some L → o + n ≤ L.cells → 0 < n → (E.P.info? t).map (·.size) = some n → z.cells.toList = Run.cells ⟨k, n, q⟩ → (∀ i, i < L.cells → g' i = updN g o n q i) → h' = h.set b ⟨true, .ints k m g'⟩ →
      ∃ w', (Instr.storeAt t (.pointer (some (L.at o))) z).run E.P w = .ok () w' ∧ Wrote β h h' w w' := by
    intro b o n m k g q g' L z hb hL hin hpos hsz hz hg he
    obtain ⟨w', s1, s2, s3⟩ := ints_write (P := E.P) (q := q) hr hb hL hin hpos
    refine ⟨w', run_storeAt ?_ (by rw [hz]; exact s1), ?_⟩
    · rw [hsz, ← Array.length_toList, hz, Run.cells_length]
    · subst he
      exact ⟨s2 g' hg, s3, fun a => Mine.put hb rfl hL (by simp [Blk.ext]) a, by simp⟩
  have fin_avs : ∀ {b o : Nat} {vs : List AV} {L : Loc}, h[b]? = some ⟨true, .avs vs⟩ → β b = some L → o < L.cells → oneAV v = true → (E.P.info? t).map (·.size) = some 1 → h' = h.set b ⟨true, .avs (vs.set o v)⟩ →
      ∃ w', (Instr.storeAt t (.pointer (some (L.at o))) z).run E.P w = .ok () w' ∧ Wrote β h h' w w' := by
    intro b o vs L hb hL hin ho hsz he
    have hz1 : v.rel1 β z := by cases v <;> first | exact hz | cases ho
    obtain ⟨w', s1, s2, s3⟩ := avs_write (P := E.P) hr hb hL hin hz1 ho
    obtain ⟨_, hc⟩ := one_of_rel1 hz1 ho
    refine ⟨w', run_storeAt (by rw [hsz, hc]; rfl) (by rw [hc]; exact s1), ?_⟩
    subst he
    exact ⟨s2, s3, fun a => Mine.put hb rfl hL (by simp [Blk.ext]) a, by simp⟩
  have fin_scatter : ∀ {bs : List (Nat × Nat)} {rs : List Run}, v = .agg rs → scatter h bs rs = some h' → ptrRel β bs y → (E.P.info? t).map (·.size) = some (sizes bs) →
      ∃ w', (Instr.storeAt t y z).run E.P w = .ok () w' ∧ Wrote β h h' w w' := by
    intro bs rs hv hs hp hsz
    subst hv
    cases hz
    obtain ⟨_, blk, base, rfl, hch⟩ := hp
    obtain ⟨s1, s2⟩ := scatter_ok (P := E.P) hs hr hch
    obtain ⟨w', t1, t2, t3, t4, t5⟩ := s2 base 0 (by omega)
    exact ⟨w', run_storeAt (by rw [hsz]; simp [Value.cells, s1]) (by simpa [Value.cells] using t1), t2, t3, t4, t5⟩
  unfold xstore at hx
  split at hx
  · rename_i kd hl
    obtain ⟨_, i, hi, hsz, _⟩ := lay_int (laysOk_at hE hl)
    have hsz1 : (E.P.info? t).map (·.size) = some 1 := by simp [hi, hsz]
    split at hx
    · rename_i kv n
      split at hx
      · rename_i hkv
        subst hkv
        cases hz
        split at hx
        · rename_i b o m
          obtain ⟨L, hL, rfl, hin⟩ := hy
          split at hx
          · rename_i k sz g hb
            split at hx
            · rename_i hk
              cases hx
              refine fin_ints hb hL (n := 1) (q := fun _ => n) (by omega) (by omega) hsz1 ?_ (fun i _ => by rw [upd_eq]) rfl
              rw [hk.1]; simp [Value.cells, Run.cells]
            · cases hx
          · cases hx
        · rename_i b m
          obtain ⟨L, hL, hLc, rfl⟩ := sptr_one hy
          split at hx
          · rename_i k sz g hb
            split at hx
            · rename_i hk
              cases hx
              refine fin_ints hb hL (n := 1) (q := fun _ => n) (by omega) (by omega) hsz1 ?_ (fun i hi => by simp only [updN]; rw [if_pos ⟨by omega, by omega⟩]) rfl
              rw [hk.1]; simp [Value.cells, Run.cells]
            · cases hx
          · cases hx
        · cases hx
      · cases hx
    · cases hx
  · rename_i len e esz kd hl
    obtain ⟨_, ⟨i, hi, hsz, _⟩, _, _, _, _, hpos⟩ := lay_arr (laysOk_at hE hl)
    have hsz1 : (E.P.info? t).map (·.size) = some (len * esz) := by simp [hi, hsz]
    split at hx
    · rename_i r
      split at hx
      · rename_i hrk
        split at hx
        · rename_i b o m
          cases hz
          obtain ⟨L, hL, rfl, hin⟩ := hy
          split at hx
          · rename_i k sz g hb
            split at hx
            · rename_i hk
              cases hx
              refine fin_ints hb hL (n := m) (q := r.get) hin (by omega) (by rw [hsz1, hk.2]) ?_ (fun i _ => rfl) rfl
              obtain ⟨rk, rsz, rg⟩ := r
              simp only at hrk
              obtain ⟨rfl, rfl⟩ := hrk
              rw [hk.1, hk.2]; simp [Value.cells, cellsOf]
            · cases hx
          · cases hx
        · rename_i bs
          split at hx
          · rename_i hs
            exact fin_scatter rfl hx hy (by rw [hsz1, hs])
          · cases hx
        · cases hx
      · cases hx
    · cases hx
  · rename_i fs rs0 hl
    obtain ⟨_, i, hi, hsz, _⟩ := lay_struct (laysOk_at hE hl)
    split at hx
    · rename_i rs
      split at hx
      · rename_i bs
        split at hx
        · rename_i hs
          exact fin_scatter rfl hx hy (by simp [hi, hsz, hs])
        · cases hx
      · cases hx
    · cases hx
  · cases hx
  · cases hx
  · rename_i l h1 h2 h3 h4 hl
    have hc := laysOk_at hE hl
    have ho : l.one = true := by
      cases l <;> first | rfl | (exfalso; first | exact h1 _ rfl | exact h2 _ _ _ _ rfl | exact h3 _ _ rfl | exact h4 rfl)
    obtain ⟨_, _, i, hi, hsz⟩ := lay_one hc ho
    have hsz1 : (E.P.info? t).map (·.size) = some 1 := by simp [hi, hsz]
    split at hx
    · rename_i hone
      split at hx
      · rename_i b m
        obtain ⟨L, hL, hLc, rfl⟩ := sptr_one hy
        split at hx
        · rename_i vs hb
          split at hx
          · rename_i hm
            cases hx
            exact fin_avs hb hL (by omega) hone hsz1 rfl
          · cases hx
        · cases hx
      · rename_i b o m
        obtain ⟨L, hL, rfl, hin⟩ := hy
        split at hx
        · rename_i vs hb
          split at hx
          · rename_i hm
            cases hx
            exact fin_avs hb hL (by omega) hone hsz1 rfl
          · cases hx
        · cases hx
      · cases hx
    · cases hx

end
end Go.Proofs.Ytjnfeffflkgddaa.Hx
