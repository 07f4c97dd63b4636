import Derived.Test.YtoeailachidcdaaGreatDoorHgRoom
namespace Go.Proofs.YtoeailachidcdaaGreatDoor.Hg
set_option linter.unusedVariables false
set_option linter.unusedSimpArgs false
set_option linter.unusedSectionVars false
open Go Go.RowKit
variable [Gl : Glob]
theorem setCells_kit (B : Nat) : ∀ (vs : List Value) (o : Nat) (w : World), w.setCells B o vs = setCells w B o vs
  | [], _, _ => rfl
  | v :: r, o, w => by
    simp only [World.setCells, setCells]
    exact setCells_kit B r (o + 1) _
theorem ext_setCells {M : Addr → Prop} {w : World} {B X : Nat} {vs : List Value} (h : ∀ a : Addr, a.block = B → X ≤ a.off → a.off < X + vs.length → M a) : Ext M w (setCells w B X vs) := by
  obtain ⟨h1, h2, h3⟩ := setCells_rest vs w B X
  refine ⟨h1, h2, h3, by rw [setCells_size]; exact Nat.le_refl _, ?_, ?_, fun a _ => setCells_frozen vs w _ _ a⟩
  · intro B0 _ hM
    cases vs with
    | nil => rfl
    | cons v vs =>
      apply setCells_heap
      rintro rfl
      exact hM ⟨B0, X, none⟩ rfl (h _ rfl (Nat.le_refl _) (by simp))
  · intro a _ hM
    apply setCells_other
    rintro ⟨h1, h2, h3⟩
    exact hM (h a h1 h2 h3)
theorem append_nothing {P : Program} (w : World) (t tx ty e : TypeId) (i : TypeInfo) (ht : P.underlying t = some (.slice e)) (hi : P.info? e = some i) (base : Option Addr) (sLen sCap : Nat) (hle : sLen ≤ sCap) (x : Value) (hs : Src P i.size tx x 0 [] w) :
    (Builtin.append_ #[t, tx] ty #[.slice base sLen sCap, x]).run P w = .ok (.slice base sLen sCap) w := by
  rcases hs.kind with ⟨e', hk⟩ | hk <;> cases base <;> simp [Builtin.append_, run_underlying ht, run_underlying hk, sizeOf, typeInfo, hi, hs.len, hle, hs.cells, storeCells]
structure Appended (β : Names) (h : Heap) (ds : List Nat) (w w' : World) (all : List Value) (nn : Bool) (n esz : Nat) (u : Value) (B X c : Nat) (ao : Option Addr) : Prop where
  val : u = .slice ao n c
  le : n ≤ c
  nn' : nn = true → ao ≠ none
  addr : c = 0 ∨ ao = some ⟨B, X, none⟩
  cells : ∀ j v, all[j]? = some v → w'.cell? ⟨B, X + j, none⟩ = some v
  room : ∀ j, j < c * esz → (w'.cell? ⟨B, X + j, none⟩).isSome = true ∧ w'.frozen? ⟨B, X + j, none⟩ = false
  own : ∀ j, j < c * esz → w.heap.size ≤ B ∨ ∃ d ∈ ds, ∃ M, β d = some M ∧ M.own B (X + j)
  ext : Ext (Mine β h) w w'
  cell : ∀ a : Addr, a.block < w.heap.size → (∀ d ∈ ds, ∀ M, β d = some M → ¬ M.own a.block a.off) → w'.cell? a = w.cell? a
def DstOk (β : Names) (h : Heap) (ds : List Nat) (ao : Option Addr) (c esz B X : Nat) : Prop :=
  (ds = [] ∧ c = 0) ∨ (∃ b y L, ds = [b] ∧ h[b]? = some ⟨true, y⟩ ∧ y ≠ .dead ∧ β b = some L ∧ (c = 0 ∨ ao = some ⟨B, X, none⟩) ∧ ∀ j, j < c * esz → L.own B (X + j))
theorem append_core {E : Env} (hE : laysOk E.P E.lays = true) {t tx ty e : TypeId} {esz eb : Nat} (hl : E.lay t = some (.slice e esz eb)) {β : Names} {h : Heap} {w : World} (hr : HRel β h w) {ds : List Nat} {nn : Bool} {ao : Option Addr} {len c B X : Nat} (hle : len ≤ c) (hnn : nn = true → ao ≠ none)
    (hdst : DstOk β h ds ao c esz B X) {olds : List Value} (holen : olds.length = len * esz) (hold : ∀ j v, olds[j]? = some v → w.cell? ⟨B, X + j, none⟩ = some v)
    {y : Value} {n : Nat} {news : List Value} (hs : Src E.P esz tx y n news w) (hg : (len + n) * eb ≤ 140737488355328) (heb : 1 ≤ eb) (hg2 : len + n ≤ 140737488355328) :
    ∃ w' u B' X' c' ao', (Builtin.append_ #[t, tx] ty #[.slice ao len c, y]).run E.P w = .ok u w' ∧ Appended β h ds w w' (olds ++ news) nn (len + n) esz u B' X' c' ao' := by
  obtain ⟨hu, _, ie, z, hie, hsz, hby, hpos, hz, hzs⟩ := lay_slice (laysOk_at hE hl)
  have hs' : Src E.P ie.size tx y n news w := by rw [hsz]; exact hs
  have live : ∀ j, j < c * esz → (w.cell? ⟨B, X + j, none⟩).isSome = true ∧ w.frozen? ⟨B, X + j, none⟩ = false := by
    intro j hj
    rcases hdst with ⟨_, h0⟩ | ⟨b, x, L, _, hb, hd, hL, _, ho⟩
    · subst h0; omega
    · obtain ⟨L', hL', hrel⟩ := hr.blk b _ hb hd
      rw [hL] at hL'; cases hL'
      obtain ⟨c1, c2⟩ := hrel.cells hd B (X + j) (ho j hj)
      exact ⟨c1, c2 rfl⟩
  have owned : ∀ j, j < c * esz → ∃ d ∈ ds, ∃ M, β d = some M ∧ M.own B (X + j) := by
    intro j hj
    rcases hdst with ⟨_, h0⟩ | ⟨b, x, L, hds, hb, hd, hL, _, ho⟩
    · subst h0; omega
    · exact ⟨b, by simp [hds], L, hL, ho j hj⟩
  by_cases hn0 : n = 0
  · subst hn0
    have hnews : news = [] := by
      have := hs.newsLen
      exact List.eq_nil_of_length_eq_zero (by simpa using this)
    subst hnews
    refine ⟨w, _, B, X, c, ao, append_nothing w t tx ty e ie hu hie ao len c hle y hs', ⟨by simp, by omega, hnn, ?_, ?_, live, fun j hj => .inr (owned j hj), Ext.refl _ _, fun _ _ _ => rfl⟩⟩
    · rcases hdst with ⟨_, h0⟩ | ⟨b, x, L, _, _, _, _, h5, _⟩
      · exact .inl h0
      · exact h5
    · intro j v hj
      exact hold j v (by simpa using hj)
  · by_cases hroom : len + n ≤ c
    · rcases hdst with ⟨_, h0⟩ | ⟨b, x, L, hds, hb, hd, hL, ha, ho⟩
      · omega
      · rcases ha with ha | ha
        · omega
        subst ha
        have hm : len * esz + n * esz ≤ c * esz := by rw [← Nat.add_mul]; exact Nat.mul_le_mul_right _ hroom
        have hnl := hs.newsLen
        have hrun := run_append_room_src (P := E.P) w t tx ty e ie hu hie B X len c y n news hs' hroom (fun j hj => by
          have := (live (len * esz + j) (by omega)).1
          rw [hsz, Nat.add_assoc]; exact this) (fun j hj => by
          have := (live (len * esz + j) (by omega)).2
          rw [hsz, Nat.add_assoc]; exact this)
        rw [hsz, setCells_kit] at hrun
        have hcs : ∀ i, i < news.length → ∃ u, w.cell? ⟨B, X + len * esz + i, none⟩ = some u := fun i hi => by
          have := (live (len * esz + i) (by omega)).1
          rw [Nat.add_assoc]
          exact Option.isSome_iff_exists.1 this
        refine ⟨_, _, B, X, c, _, hrun, ⟨rfl, hroom, by simp, .inr rfl, ?_, ?_, fun j hj => .inr (owned j hj), ?_, ?_⟩⟩
        · intro j v hj
          by_cases hlt : j < olds.length
          · rw [List.getElem?_append_left hlt] at hj
            rw [setCells_other _ _ _ _ _ (by simp only; omega)]
            exact hold j v hj
          · rw [List.getElem?_append_right (by omega)] at hj
            have := setCells_same news w B (X + len * esz) (j - olds.length) v hj hcs
            rw [show X + len * esz + (j - olds.length) = X + j by omega] at this
            exact this
        · intro j hj
          obtain ⟨c1, c2⟩ := live j hj
          refine ⟨?_, by rw [setCells_frozen]; exact c2⟩
          by_cases hin : len * esz ≤ j ∧ j < len * esz + news.length
          · have := setCells_same news w B (X + len * esz) (j - len * esz) _ (List.getElem?_eq_getElem (by omega)) hcs
            rw [show X + len * esz + (j - len * esz) = X + j by omega] at this
            rw [this]; rfl
          · rw [setCells_other _ _ _ _ _ (by simp only; omega)]
            exact c1
        · refine ext_setCells fun a h1 h2 h3 => ⟨b, _, L, hb, rfl, hd, hL, ?_⟩
          have := ho (a.off - X) (by omega)
          rw [show X + (a.off - X) = a.off by omega, ← h1] at this
          exact this
        · intro a _ hno
          apply setCells_other
          rintro ⟨h1, h2, h3⟩
          have := ho (a.off - X) (by omega)
          rw [show X + (a.off - X) = a.off by omega, ← h1] at this
          exact hno b (by simp [hds]) L hL this
    · have hgrow : c < len + n := by omega
      have hfit : Builtin.nextslicecap (len + n) c * ie.bytes ≤ 281474976710656 := by
        have h1 := Nat.mul_le_mul_right eb (nextslicecap_le hgrow)
        rw [hby]
        have h2 : 2 * (len + n) * eb = 2 * ((len + n) * eb) := Nat.mul_assoc ..
        omega
      have hfc : (Builtin.firstCells ie.size len (.slice ao len c)).run E.P w.drew = .ok olds.toArray w.drew := by
        rw [hsz]
        rcases hdst with ⟨_, h0⟩ | ⟨b, x, L, _, _, _, _, ha, _⟩
        · have h1 : len = 0 := by omega
          subst h1
          have h2 : olds = [] := List.eq_nil_of_length_eq_zero (by simpa using holen)
          subst h2
          cases ao with
          | none => exact run_firstCells_none w.drew esz 0 0 c
          | some a => exact run_firstCells_some w.drew esz 0 a 0 c [] (by simp) (by simp)
        · rcases ha with ha | ha
          · have h1 : len = 0 := by omega
            subst h1
            have h2 : olds = [] := List.eq_nil_of_length_eq_zero (by simpa using holen)
            subst h2
            cases ao with
            | none => exact run_firstCells_none w.drew esz 0 0 c
            | some a => exact run_firstCells_some w.drew esz 0 a 0 c [] (by simp) (by simp)
          · subst ha
            exact run_firstCells_some w.drew esz len _ len c olds holen (fun j v hj => by rw [add_mk]; exact hold j v hj)
      have hrun := run_append_grow_src (P := E.P) w t tx ty e ie z hu hie hz ao len c olds hfc y n news hs' hgrow (by omega) hfit
      have hge := grownCap_ge w (len + n) c e
      have hbel : Below w.heap.size w (w.drew.alloc (.cells ((olds ++ news).toArray ++ Builtin.zeroCells z.cells (grownCap w (len + n) c e - (len + n))) e)) := ((Below.refl _ _).drew).alloc (Nat.le_refl _) _
      have hall : (olds ++ news).length = (len + n) * esz := by rw [List.length_append, holen, hs.newsLen, Nat.add_mul]
      have hsize : ((olds ++ news).toArray ++ Builtin.zeroCells z.cells (grownCap w (len + n) c e - (len + n))).size = grownCap w (len + n) c e * esz := by
        rw [Array.size_append, size_zeroCells, List.size_toArray, hall, hzs, ← Nat.add_mul]
        congr 1; omega
      have hat : ∀ j, (w.drew.alloc (.cells ((olds ++ news).toArray ++ Builtin.zeroCells z.cells (grownCap w (len + n) c e - (len + n))) e)).cell? ⟨w.heap.size, 0 + j, none⟩ = ((olds ++ news).toArray ++ Builtin.zeroCells z.cells (grownCap w (len + n) c e - (len + n)))[j]? := by
        intro j
        rw [Nat.zero_add]
        exact World.cell?_alloc_new w.drew _ _ j
      refine ⟨_, _, w.heap.size, 0, _, _, hrun, ⟨rfl, hge, by simp, .inr rfl, ?_, ?_, fun _ _ => .inl (Nat.le_refl _), .of_below hbel, fun a ha _ => hbel.cell ha⟩⟩
      · intro j v hj
        have hlt := (List.getElem?_eq_some_iff.1 hj).1
        rw [hat, Array.getElem?_append_left (by simpa using hlt)]
        simpa using hj
      · intro j hj
        refine ⟨?_, World.frozen?_alloc_new w.drew _ _ _⟩
        rw [hat]
        simp only [Option.isSome_iff_exists]
        exact ⟨_, Array.getElem?_eq_getElem (by rw [hsize]; exact hj)⟩
theorem appended_push {β : Names} {h : Heap} {ds : List Nat} {w w' : World} {all : List Value} {nn : Bool} {n esz : Nat} {u : Value} {B X c : Nat} {ao : Option Addr} (hr : HRel β h w) (hds : ∀ d ∈ ds, ∃ y M, h[d]? = some y ∧ y.rw = true ∧ y.c ≠ .dead ∧ β d = some M) (ha : Appended β h ds w w' all nn n esz u B X c ao)
    {x : Cont} (hx : ∀ γ : Names, β.le γ → x.rel γ (Loc.grow B X (n * esz) (c * esz)) w') : ∃ γ, After β γ h (kills ds h ++ [⟨true, x⟩]) w w' ∧ (AV.slice nn h.length 0 n .whole esz).rel1 γ u := by
  have hm : n * esz ≤ c * esz := Nat.mul_le_mul_right _ ha.le
  have hle := extN_le (L := Loc.grow B X (n * esz) (c * esz)) hr.fresh
  have hoff : ∀ {B' X' : Nat}, (Loc.grow B X (n * esz) (c * esz)).own B' X' → B' = B ∧ X' = X + (X' - X) ∧ X' - X < c * esz := fun ho => by
    have := (Loc.grow_own hm).1 ho
    omega
  refine ⟨_, push_world (x := ⟨true, x⟩) (L := Loc.grow B X (n * esz) (c * esz)) hr hds ⟨fun _ B' X' ho => ?_, hx _ hle⟩ Loc.grow_inj (fun B' X' ho => ?_) ha.ext ha.cell, ?_⟩
  · obtain ⟨rfl, h1, h2⟩ := hoff ho
    have := ha.room _ h2
    rw [← h1] at this
    exact ⟨this.1, fun _ => this.2⟩
  · obtain ⟨rfl, h1, h2⟩ := hoff ho
    have := ha.own _ h2
    rw [← h1] at this
    exact this
  · exact ⟨Loc.grow B X (n * esz) (c * esz), ao, c, B, X, by unfold extN; rw [if_pos rfl], ha.val, ha.le, ha.nn', ha.addr, rfl, rfl⟩
section
variable {ρ : Type}
def srcFlat (h : Heap) (esz : Nat) : AV → Option (Nat × Option FK)
  | .nils => some (0, none)
  | .slice _ b o n _ esz' => if esz' = esz then (match h[b]? with | some ⟨_, .flat _ f⟩ => some (n, some (f.offZ o)) | _ => none) else none
  | _ => none
theorem srcFlat_ok {E : Env} (hE : laysOk E.P E.lays = true) {tx e' : TypeId} {esz' eb' : Nat} (hl : E.lay tx = some (.slice e' esz' eb')) {β : Names} {h : Heap} {w : World} (hr : HRel β h w) {esz n : Nat} {fo : Option FK} {y : AV} {u : Value} (hs : srcFlat h esz y = some (n, fo)) (hy : y.rel β u) :
    (∀ f, fo = some f → Src E.P esz tx u n (f.cells (n * esz)) w) ∧ (fo = none → n = 0 ∧ Src E.P esz tx u 0 [] w) := by
  obtain ⟨hu, _⟩ := lay_slice (laysOk_at hE hl)
  cases y <;> simp only [srcFlat] at hs <;> try contradiction
  case nils =>
    cases hs; cases hy
    exact ⟨fun f hf => (by cases hf), fun _ => ⟨rfl, Src.ofNil w hu 0⟩⟩
  case slice nn b o k cap esz2 =>
    split at hs
    · rename_i he
      subst he
      split at hs
      · rename_i rw m f hb
        cases hs
        refine ⟨fun g hg => ?_, fun h => by cases h⟩
        cases hg
        obtain ⟨L, ao, c, B, X, hL, rfl, hle, hnn, ha, hcap⟩ := hy
        have hsp := capRel_span hle hcap
        obtain ⟨L', hL', hrel⟩ := hr.blk b _ hb (by simp)
        rw [hL] at hL'; cases hL'
        cases ao with
        | none =>
          have hc0 : c = 0 := by
            rcases ha with h | h
            · exact h
            · cases h
          have hk : n = 0 := by omega
          subst hk
          simpa [FK.cells] using Src.ofNil w hu c
        | some a =>
          refine Src.ofSlice w hu a n c _ (FK.cells_length _ _) (fun j v hj => ?_) (fun v hv => ?_)
          · have hlt : j < n * esz2 := by have := (List.getElem?_eq_some_iff.1 hj).1; rwa [FK.cells_length] at this
            rw [FK.cells_get _ hlt] at hj
            cases hj
            rcases ha with h | h
            · subst h
              have : n = 0 := by omega
              subst this
              simp at hlt
            · cases h
              rw [add_mk, FK.at_offZ]
              exact hrel.cont (o + j) B (X + j) (hsp j hlt)
          · simp only [FK.cells, List.mem_map] at hv
            obtain ⟨i, _, rfl⟩ := hv
            exact (FK.at_one _ i).1
      · cases hs
    · cases hs
def xappend (E : Env) (h : Heap) (t tx : TypeId) (x y : AV) (k : AV → Heap → Option ρ) : Option ρ :=
  match E.lay t, E.lay tx with
  | some (.slice _ esz eb), some (.slice ..) => if 1 ≤ eb then (match x with
    | .nils => (match srcFlat h esz y with
      | some (n, some f2) => if n * eb ≤ 140737488355328 then k (.slice false h.length 0 n .whole esz) (h ++ [⟨true, .flat 0 f2⟩]) else none
      | some (_, none) => k .nils h
      | none => none)
    | .slice nn b o len cap esz' => if esz' = esz then (match cap with
      | .unk => none
      | .exact c => if c = 0 ∧ len = 0 then (match srcFlat h esz y with
        | some (n, some f2) => if n * eb ≤ 140737488355328 then k (.slice nn h.length 0 n .whole esz) (h ++ [⟨true, .flat 0 f2⟩]) else none
        | _ => none) else if o = 0 then (match h[b]? with
          | some ⟨true, .flat _ f⟩ => (match srcFlat h esz y with
            | some (n, some f2) => (match FK.join (len * esz) f f2 with
              | some f3 => if (len + n) * eb ≤ 140737488355328 then k (.slice nn h.length 0 (len + n) .whole esz) (kills [b] h ++ [⟨true, .flat 0 f3⟩]) else none
              | none => none)
            | _ => none)
          | _ => none) else none
      | .whole => if o = 0 then (match h[b]? with
        | some ⟨true, .flat _ f⟩ => (match srcFlat h esz y with
          | some (n, some f2) => (match FK.join (len * esz) f f2 with
            | some f3 => if (len + n) * eb ≤ 140737488355328 then k (.slice nn h.length 0 (len + n) .whole esz) (kills [b] h ++ [⟨true, .flat 0 f3⟩]) else none
            | none => none)
          | some (_, none) => k (.slice nn b 0 len .whole esz) h
          | none => none)
        | some ⟨true, .hdr ..⟩ => (match y with
          | .slice _ bs os n _ 1 => if n = 1 ∧ esz = 1 then (match h[bs]? with
            | some ⟨_, .avs vs⟩ => (match vs[os]? with
              | some v => (match foldRow h b v with
                | some (h1, off, ln1, cap1) => (match h1[b]? with
                  | some ⟨true, .hdr p _ q of ln cp⟩ => if (len + 1) * eb ≤ 140737488355328 then k (.slice nn h1.length 0 (len + 1) .whole esz) (kills [b] h1 ++ [⟨true, .hdr p 0 q (upd of len off) (upd ln len ln1) (hdrPut cp len cap1)⟩]) else none
                  | _ => none)
                | none => none)
              | none => none)
            | _ => none) else none
          | _ => none)
        | _ => none) else none) else none
    | _ => none) else none
  | _, _ => none
theorem fits_of {n eb : Nat} (h : n * eb ≤ 140737488355328) (h1 : 1 ≤ eb) : n ≤ 140737488355328 := Nat.le_trans (Nat.le_mul_of_pos_right n h1) h
theorem xappend_ok {E : Env} (hE : laysOk E.P E.lays = true) {h : Heap} {t tx : TypeId} {x y : AV} {k : AV → Heap → Option ρ} {r : ρ} (hx : xappend E h t tx x y k = some r) :
    ∃ v h', k v h' = some r ∧ ∀ (β : Names) (w : World) (a u : Value) (ty : TypeId), HRel β h w → x.rel β a → y.rel β u → ∃ z w' γ, (Builtin.append_ #[t, tx] ty #[a, u]).run E.P w = .ok z w' ∧ v.rel γ z ∧ After β γ h h' w w' := by
  unfold xappend at hx
  split at hx
  · rename_i e esz eb e2 es2 eb2 hl hl2
    split at hx
    · rename_i heb
      have fresh : ∀ {nn : Bool} {n : Nat} {f2 : FK}, srcFlat h esz y = some (n, some f2) → n * eb ≤ 140737488355328 → ∀ (β : Names) (w : World) (u : Value) (ty : TypeId) (ao : Option Addr), HRel β h w → (nn = true → ao ≠ none) → y.rel β u →
          ∃ z w' γ, (Builtin.append_ #[t, tx] ty #[.slice ao 0 0, u]).run E.P w = .ok z w' ∧ (AV.slice nn h.length 0 n .whole esz).rel γ z ∧ After β γ h (h ++ [⟨true, .flat 0 f2⟩]) w w' := by
        intro nn n f2 hs hg β w u ty ao hr hnn hy
        have hsrc := (srcFlat_ok hE hl2 hr hs hy).1 f2 rfl
        obtain ⟨w', z, B, X, c, ao', h1, h2⟩ := append_core (ty := ty) hE hl hr (ds := []) (nn := nn) (ao := ao) (len := 0) (c := 0) (B := 0) (X := 0) (Nat.le_refl _) hnn (.inl ⟨rfl, rfl⟩) (olds := []) (by simp) (by simp) hsrc (by simpa using hg) heb (by simpa using fits_of hg heb)
        obtain ⟨γ, h3, h4⟩ := appended_push (x := .flat 0 f2) hr (ds := []) (by simp) h2 (fun γ _ i B' X' hp => by
          obtain ⟨h5, h6⟩ := Loc.grow_pl.1 hp
          cases h6
          refine h2.cells i _ ?_
          simp only [List.nil_append]
          exact FK.cells_get _ (by simpa using h5))
        refine ⟨z, w', γ, h1, ?_, h3⟩
        simp only [Nat.zero_add] at h4
        exact rel_of_rel1 h4
      split at hx
      · split at hx
        · rename_i n f2 hs
          split at hx
          · rename_i hg
            refine ⟨_, _, hx, fun β w a u ty hr hxa hy => ?_⟩
            cases hxa
            exact fresh (nn := false) hs hg β w u ty none hr (by simp) hy
          · cases hx
        · rename_i n0 hs
          refine ⟨_, _, hx, fun β w a u ty hr hxa hy => ?_⟩
          cases hxa
          obtain ⟨_, hsrc⟩ := (srcFlat_ok hE hl2 hr hs hy).2 rfl
          obtain ⟨hu, _, ie, z, hie, hsz, _⟩ := lay_slice (laysOk_at hE hl)
          exact ⟨_, w, β, append_nothing w t tx ty e ie hu hie none 0 0 (Nat.le_refl _) u (by rw [hsz]; exact hsrc), rfl, After.refl hr⟩
        · cases hx
      · rename_i nn b o len cap esz'
        split at hx
        · rename_i hesz
          subst hesz
          split at hx
          · cases hx
          · rename_i c
            split at hx
            · rename_i hc
              obtain ⟨rfl, rfl⟩ := hc
              split at hx
              · rename_i n f2 hs
                split at hx
                · rename_i hg
                  refine ⟨_, _, hx, fun β w a u ty hr hxa hy => ?_⟩
                  obtain ⟨L, ao, c', B, X, hL, rfl, hle, hnn, ha, rfl, _⟩ := hxa
                  exact fresh (nn := nn) hs hg β w u ty ao hr hnn hy
                · cases hx
              · cases hx
            · split at hx
              · rename_i ho
                subst ho
                split at hx
                · rename_i m f hb
                  split at hx
                  · rename_i n f2 hs
                    split at hx
                    · rename_i f3 hj
                      split at hx
                      · rename_i hg
                        refine ⟨_, _, hx, fun β w a u ty hr hxa hy => ?_⟩
                        obtain ⟨L, ao, c', B, X, hL, rfl, hle, hnn, ha, rfl, hsp⟩ := hxa
                        obtain ⟨L', hL', hrel⟩ := hr.blk b _ hb (by simp)
                        rw [hL] at hL'; cases hL'
                        have hm : len * esz' ≤ c' * esz' := Nat.mul_le_mul_right _ hle
                        have hsp0 : ∀ j, j < c' * esz' → L.pl j = some (B, X + j) := fun j hj => by have := hsp j hj; rwa [Nat.zero_add] at this
                        have hsrc := (srcFlat_ok hE hl2 hr hs hy).1 f2 rfl
                        obtain ⟨w', z, B', X', c2, ao', h1, h2⟩ := append_core (ty := ty) hE hl hr (ds := [b]) (nn := nn) (ao := ao) (len := len) (c := c') (B := B) (X := X) hle hnn (.inr ⟨b, _, _, rfl, hb, by simp, hL, ha, fun j hj => .inl ⟨j, hsp0 j hj⟩⟩) (olds := f.cells (len * esz')) (FK.cells_length _ _) (fun j v hj => by
                          have hlt : j < len * esz' := by have := (List.getElem?_eq_some_iff.1 hj).1; rwa [FK.cells_length] at this
                          rw [FK.cells_get _ hlt] at hj
                          cases hj
                          exact hrel.cont j B (X + j) (hsp0 j (by omega))) hsrc hg heb (fits_of hg heb)
                        obtain ⟨γ, h3, h4⟩ := appended_push (x := .flat 0 f3) hr (ds := [b]) (by
                          intro d hd
                          simp only [List.mem_singleton] at hd
                          subst hd
                          exact ⟨_, _, hb, rfl, by simp, hL⟩) h2 (fun γ _ i B2 X2 hp => by
                          obtain ⟨h5, h6⟩ := Loc.grow_pl.1 hp
                          cases h6
                          refine h2.cells i _ ?_
                          rw [FK.join_at hj]
                          by_cases hlt : i < len * esz'
                          · rw [if_pos hlt, List.getElem?_append_left (by rw [FK.cells_length]; exact hlt)]
                            exact FK.cells_get _ hlt
                          · rw [if_neg hlt, List.getElem?_append_right (by rw [FK.cells_length]; omega), FK.cells_length]
                            exact FK.cells_get _ (by rw [Nat.add_mul] at h5; omega))
                        exact ⟨z, w', γ, h1, rel_of_rel1 h4, h3⟩
                      · cases hx
                    · cases hx
                  · cases hx
                · cases hx
              · cases hx
          · split at hx
            · rename_i ho
              subst ho
              split at hx
              · rename_i m f hb
                split at hx
                · rename_i n f2 hs
                  split at hx
                  · rename_i f3 hj
                    split at hx
                    · rename_i hg
                      refine ⟨_, _, hx, fun β w a u ty hr hxa hy => ?_⟩
                      obtain ⟨L, ao, c, B, X, hL, rfl, hle, hnn, ha, _, hLe⟩ := hxa
                      subst hLe
                      obtain ⟨L', hL', hrel⟩ := hr.blk b _ hb (by simp)
                      rw [hL] at hL'; cases hL'
                      have hm : len * esz' ≤ c * esz' := Nat.mul_le_mul_right _ hle
                      have hsrc := (srcFlat_ok hE hl2 hr hs hy).1 f2 rfl
                      obtain ⟨w', z, B', X', c', ao', h1, h2⟩ := append_core (ty := ty) hE hl hr (ds := [b]) (nn := nn) (ao := ao) (len := len) (c := c) (B := B) (X := X) hle hnn (.inr ⟨b, _, _, rfl, hb, by simp, hL, ha, fun j hj => (Loc.grow_own hm).2 ⟨rfl, by omega, by omega⟩⟩) (olds := f.cells (len * esz')) (FK.cells_length _ _) (fun j v hj => by
                        have hlt : j < len * esz' := by have := (List.getElem?_eq_some_iff.1 hj).1; rwa [FK.cells_length] at this
                        rw [FK.cells_get _ hlt] at hj
                        cases hj
                        exact hrel.cont j B (X + j) (Loc.grow_pl.2 ⟨hlt, rfl⟩)) hsrc hg heb (fits_of hg heb)
                      obtain ⟨γ, h3, h4⟩ := appended_push (x := .flat 0 f3) hr (ds := [b]) (by
                        intro d hd
                        simp only [List.mem_singleton] at hd
                        subst hd
                        exact ⟨_, _, hb, rfl, by simp, hL⟩) h2 (fun γ _ i B2 X2 hp => by
                        obtain ⟨h5, h6⟩ := Loc.grow_pl.1 hp
                        cases h6
                        refine h2.cells i _ ?_
                        rw [FK.join_at hj]
                        by_cases hlt : i < len * esz'
                        · rw [if_pos hlt, List.getElem?_append_left (by rw [FK.cells_length]; exact hlt)]
                          exact FK.cells_get _ hlt
                        · rw [if_neg hlt, List.getElem?_append_right (by rw [FK.cells_length]; omega), FK.cells_length]
                          exact FK.cells_get _ (by rw [Nat.add_mul] at h5; omega))
                      exact ⟨z, w', γ, h1, rel_of_rel1 h4, h3⟩
                    · cases hx
                  · cases hx
                · rename_i n0 hs
                  refine ⟨_, _, hx, fun β w a u ty hr hxa hy => ?_⟩
                  obtain ⟨_, hsrc⟩ := (srcFlat_ok hE hl2 hr hs hy).2 rfl
                  obtain ⟨hu, _, ie, z, hie, hsz, _⟩ := lay_slice (laysOk_at hE hl)
                  obtain ⟨L, ao, c, B, X, hL, rfl, hle, hrest⟩ := hxa
                  exact ⟨_, w, β, append_nothing w t tx ty e ie hu hie ao len c hle u (by rw [hsz]; exact hsrc), ⟨L, ao, c, B, X, hL, rfl, hle, hrest⟩, After.refl hr⟩
                · cases hx
              · split at hx
                · rename_i nn2 bs os n cap2
                  split at hx
                  · rename_i hn
                    obtain ⟨rfl, rfl⟩ := hn
                    split at hx
                    · rename_i rw2 vs hbs
                      split at hx
                      · rename_i v hvs
                        split at hx
                        · rename_i h1 off ln1 cap1 hf
                          split at hx
                          · rename_i p n2 q of ln cp hb1
                            split at hx
                            · rename_i hg
                              refine ⟨_, _, hx, fun β w a u ty hr hxa hy => ?_⟩
                              obtain ⟨L, ao, c, B, X, hL, rfl, hle, hnn, ha, _, hLe⟩ := hxa
                              subst hLe
                              obtain ⟨L2, ao2, c2, B2, X2, hL2, rfl, hle2, hnn2, ha2, hcap2⟩ := hy
                              obtain ⟨L2', hL2', hrel2⟩ := hr.blk bs _ hbs (by simp)
                              rw [hL2] at hL2'; cases hL2'
                              have hsp := capRel_span hle2 hcap2 0 (by omega)
                              simp only [Nat.add_zero] at hsp
                              obtain ⟨v', z1, e1, e2, e3⟩ := hrel2.cont.2 os B2 X2 hsp
                              rw [hvs] at e1; cases e1
                              have ha2' : ao2 = some ⟨B2, X2, none⟩ := ha2.resolve_left (by omega)
                              subst ha2'
                              obtain ⟨hu2, _⟩ := lay_slice (laysOk_at hE hl2)
                              obtain ⟨γ1, rw1, p0, q0, p1, n1, q1, of1, ln1', cp1, a1, f1, f2, f3⟩ := foldRow_ok hr hf e3
                              rw [hb1] at f2
                              cases f2
                              have hL1 := a1.le _ _ hL
                              obtain ⟨L', hL', hrel⟩ := a1.rel.blk b _ hb1 (by simp)
                              rw [hL1] at hL'; cases hL'
                              have hm : len * 1 ≤ c * 1 := Nat.mul_le_mul_right _ hle
                              have hz1 : z1.oneCell' = true := (one_of_rel1 (v := .slice false p off ln1 cap1 1) f3 rfl).1
                              have hsrc : Src E.P 1 tx (.slice (some ⟨B2, X2, none⟩) 1 c2) 1 [z1] w := by
                                refine Src.ofSlice w hu2 _ 1 c2 [z1] rfl (fun j v hj => ?_) (by simpa using hz1)
                                have : j = 0 := by
                                  have := (List.getElem?_eq_some_iff.1 hj).1
                                  simpa using this
                                subst this
                                simp only [List.getElem?_cons_zero, Option.some.injEq] at hj
                                subst hj
                                rw [add_mk]; exact e2
                              have hol : ∃ olds : List Value, olds.length = len * 1 ∧ (∀ j v, olds[j]? = some v → w.cell? ⟨B, X + j, none⟩ = some v ∧ (hdrAV p of ln cp j).rel1 γ1 v) := by
                                have hc := hrel.cont.2
                                have key : ∀ m, m ≤ len → ∃ olds : List Value, olds.length = m ∧ (∀ j v, olds[j]? = some v → w.cell? ⟨B, X + j, none⟩ = some v ∧ (hdrAV p of ln cp j).rel1 γ1 v) := by
                                  intro m
                                  induction m with
                                  | zero => exact fun _ => ⟨[], rfl, by simp⟩
                                  | succ m ih =>
                                    intro hm'
                                    obtain ⟨os', g1, g2⟩ := ih (by omega)
                                    obtain ⟨v, g3, g4⟩ := hc m B (X + m) (Loc.grow_pl.2 ⟨by omega, rfl⟩)
                                    refine ⟨os' ++ [v], by simp [g1], fun j y hj => ?_⟩
                                    by_cases hlt : j < m
                                    · rw [List.getElem?_append_left (by omega)] at hj
                                      exact g2 j y hj
                                    · rw [List.getElem?_append_right (by omega)] at hj
                                      have hjm : j = m := by
                                        have := (List.getElem?_eq_some_iff.1 hj).1
                                        simp at this; omega
                                      subst hjm
                                      rw [g1] at hj
                                      simp at hj
                                      subst hj
                                      exact ⟨g3, g4⟩
                                obtain ⟨os', g1, g2⟩ := key len (Nat.le_refl _)
                                exact ⟨os', by simpa using g1, g2⟩
                              obtain ⟨olds, ho1, ho2⟩ := hol
                              obtain ⟨w', z, B', X', c', ao', g1, g2⟩ := append_core (ty := ty) hE hl a1.rel (ds := [b]) (nn := nn) (ao := ao) (len := len) (c := c) (B := B) (X := X) hle hnn (.inr ⟨b, _, _, rfl, hb1, by simp, hL1, ha, fun j hj => (Loc.grow_own hm).2 ⟨rfl, by omega, by omega⟩⟩) (olds := olds) ho1 (fun j v hj => (ho2 j v hj).1) hsrc hg heb (fits_of hg heb)
                              obtain ⟨γ, g3, g4⟩ := appended_push (x := .hdr p 0 q (upd of len off) (upd ln len ln1) (hdrPut cp len cap1)) a1.rel (ds := [b]) (by
                                intro d hd
                                simp only [List.mem_singleton] at hd
                                subst hd
                                exact ⟨_, _, hb1, rfl, by simp, hL1⟩) g2 (fun γ hle3 => by
                                obtain ⟨M, hM, hq⟩ := hrel.cont.1
                                refine ⟨⟨M, hle3 _ _ hM, hq⟩, fun i B3 X3 hp => ?_⟩
                                obtain ⟨h5, h6⟩ := Loc.grow_pl.1 hp
                                cases h6
                                by_cases hlt : i < len
                                · have hi : olds[i]? = some olds[i] := List.getElem?_eq_getElem (by omega)
                                  refine ⟨olds[i], g2.cells i _ (by rw [List.getElem?_append_left (by omega)]; exact hi), ?_⟩
                                  exact hdrPut_other (by omega) (AV.rel1_le hle3 (ho2 i _ hi).2)
                                · have hil : i = len := by omega
                                  subst hil
                                  refine ⟨z1, g2.cells i _ (by rw [List.getElem?_append_right (by omega), ho1]; simp), ?_⟩
                                  exact hdrPut_same (AV.rel1_le hle3 f3))
                              exact ⟨z, w', γ, g1, rel_of_rel1 g4, a1.trans g3⟩
                            · cases hx
                          · cases hx
                        · cases hx
                      · cases hx
                    · cases hx
                  · cases hx
                · cases hx
              · cases hx
            · cases hx
        · cases hx
      · cases hx
    · cases hx
  · cases hx
def pushFlat (h : Heap) (f : FK) : Heap := h ++ [⟨true, .flat 0 f⟩]
def pushHdr (h : Heap) (k : IntKind) : Heap := pushFlat h (.ints k fun _ => 0) ++ [⟨true, .hdr h.length 0 0 (fun _ => 0) (fun _ => 0) none⟩]
theorem pushFlat_ok {β : Names} {h : Heap} {w : World} (hr : HRel β h w) (f : FK) : After β (extN β h.length (Loc.grow 0 0 0 0)) h (pushFlat h f) w w := by
  have hno : ∀ B X, ¬ (Loc.grow 0 0 0 0).own B X := fun B X ho => by have := (Loc.grow_own (Nat.le_refl _)).1 ho; omega
  refine push_world (ds := []) (x := ⟨true, .flat 0 f⟩) hr (by simp) ⟨fun _ B X ho => absurd ho (hno B X), fun i B X hp => ?_⟩ Loc.grow_inj (fun B X ho => absurd ho (hno B X)) (Ext.refl _ _) (fun _ _ _ => rfl)
  have := (Loc.grow_pl.1 hp).1
  omega
theorem pushHdr_ok {β : Names} {h : Heap} {w : World} (hr : HRel β h w) (k : IntKind) : ∃ γ, After β γ h (pushHdr h k) w w ∧ γ (h.length + 1) = some (Loc.grow 0 0 0 0) := by
  have hno : ∀ B X, ¬ (Loc.grow 0 0 0 0).own B X := fun B X ho => by have := (Loc.grow_own (Nat.le_refl _)).1 ho; omega
  have a1 := pushFlat_ok hr (.ints k fun _ => 0)
  have hl : (pushFlat h (.ints k fun _ => 0)).length = h.length + 1 := by simp [pushFlat]
  have a2 := push_world (ds := []) (x := ⟨true, .hdr h.length 0 0 (fun _ => 0) (fun _ => 0) none⟩) (L := Loc.grow 0 0 0 0) (w' := w) a1.rel (by simp) ⟨fun _ B X ho => absurd ho (hno B X), ⟨Loc.grow 0 0 0 0, ?_, fun i _ => ?_⟩, fun i B X hp => ?_⟩ Loc.grow_inj (fun B X ho => absurd ho (hno B X)) (Ext.refl _ _) (fun _ _ _ => rfl)
  · exact ⟨_, a1.trans a2, by unfold extN; rw [if_pos hl.symm]⟩
  · have h1 : extN β h.length (Loc.grow 0 0 0 0) h.length = some (Loc.grow 0 0 0 0) := by unfold extN; rw [if_pos rfl]
    exact extN_le a1.rel.fresh _ _ h1
  · cases hp : (Loc.grow 0 0 0 0).pl i with
    | none => rfl
    | some p => have := (Loc.grow_pl.1 hp).1; omega
  · have := (Loc.grow_pl.1 hp).1
    omega
theorem slice_nil {γ : Names} {b esz : Nat} {cap : Cap} (hb : γ b = some (Loc.grow 0 0 0 0)) (hc : cap = .whole ∨ cap = .exact 0 ∨ cap = .unk) : (AV.slice false b 0 0 cap esz).rel1 γ (.slice none 0 0) := by
  refine ⟨_, none, 0, 0, 0, hb, rfl, Nat.le_refl _, by simp, .inl rfl, ?_⟩
  rcases hc with rfl | rfl | rfl
  · exact ⟨rfl, by simp⟩
  · exact ⟨rfl, fun j hj => absurd hj (by simp)⟩
  · exact fun j hj => absurd hj (by simp)
def rowKind (h : Heap) : AV → Option (IntKind × AV)
  | .slice _ bs os _ _ _ => (match h[bs]? with
    | some ⟨_, .avs vs⟩ => (match vs[os]? with
      | some (.slice nn b o n cap e) => (match h[b]? with
        | some ⟨_, .flat _ (.ints k _)⟩ => some (k, .slice nn b o n cap e)
        | _ => none)
      | _ => none)
    | _ => none)
  | _ => none
def xappendN (E : Env) (h : Heap) (t tx : TypeId) (x y : AV) (k : AV → Heap → Option ρ) : Option ρ :=
  match x, rowKind h y with
  | .nils, some (kd, _) => xappend E (pushHdr h kd) t tx (.slice false (h.length + 1) 0 0 .whole 1) y k
  | x, _ => xappend E h t tx x y k
theorem pushHdr_length (h : Heap) (k : IntKind) : (pushHdr h k).length = h.length + 2 := by simp [pushHdr, pushFlat]
theorem pushHdr_old {h : Heap} {k : IntKind} {c : Nat} (hc : c < h.length) : (pushHdr h k)[c]? = h[c]? := by
  simp only [pushHdr, pushFlat]
  rw [List.getElem?_append_left (by simp; omega), List.getElem?_append_left hc]
theorem pushHdr_at (h : Heap) (k : IntKind) : (pushHdr h k)[h.length + 1]? = some ⟨true, .hdr h.length 0 0 (fun _ => 0) (fun _ => 0) none⟩ := by
  simp only [pushHdr, pushFlat]
  rw [List.getElem?_append_right (by simp)]
  simp
theorem xappendN_ok {E : Env} (hE : laysOk E.P E.lays = true) {h : Heap} {t tx : TypeId} {x y : AV} {k : AV → Heap → Option ρ} {r : ρ} (hx : xappendN E h t tx x y k = some r) :
    ∃ v h', k v h' = some r ∧ ∀ (β : Names) (w : World) (a u : Value) (ty : TypeId), HRel β h w → x.rel β a → y.rel β u → ∃ z w' γ, (Builtin.append_ #[t, tx] ty #[a, u]).run E.P w = .ok z w' ∧ v.rel γ z ∧ After β γ h h' w w' := by
  unfold xappendN at hx
  split at hx
  · obtain ⟨v, h', h1, h2⟩ := xappend_ok hE hx
    refine ⟨v, h', h1, fun β w a u ty hr hxa hy => ?_⟩
    cases hxa
    obtain ⟨γ, a1, hb⟩ := pushHdr_ok hr _
    obtain ⟨z, w', δ, e1, e2, e3⟩ := h2 γ w _ u ty a1.rel (rel_of_rel1 (slice_nil hb (.inl rfl))) (AV.rel_le a1.le hy)
    exact ⟨z, w', δ, e1, e2, a1.trans e3⟩
  · exact xappend_ok hE hx
theorem xappendN_bind {E : Env} {h : Heap} {t tx : TypeId} {x y : AV} {k : AV → Heap → Option ρ} : xappendN E h t tx x y k = (xappendN E h t tx x y (fun v h' => some (v, h'))).bind (fun p => k p.1 p.2) := by
  unfold xappendN
  split
  · unfold xappend; repeat' split
    all_goals rfl
  · unfold xappend; repeat' split
    all_goals rfl
end
end Go.Proofs.YtoeailachidcdaaGreatDoor.Hg
