import Derived.Test.YtoeailachidcdaaGreatDoorHgSem6
namespace Go.Proofs.YtoeailachidcdaaGreatDoor.Hg
set_option linter.unusedVariables false
set_option linter.unusedSimpArgs false
set_option linter.unusedSectionVars false
open Go Go.RowKit
variable [Gl : Glob]
section
variable {ρ : Type}
def pick1 (t : Bool) : AV → AV → Option AV
  | .bool x, .bool y => some (.bool (bif t then x else y))
  | _, _ => none
theorem rel1_of_one {β : Names} {v : AV} {u : Value} (h : v.rel β u) (ho : oneAV v = true) : v.rel1 β u ∧ u.cells = #[u] := by
  cases v <;> simp only [oneAV] at ho <;> try contradiction
  all_goals
    have h' := h
    simp only [AV.rel] at h'
    exact ⟨h', cells_of_rel1 h' (fun _ => by simp) (by simp)⟩
theorem fill_seq {β : Names} : ∀ (ps : List (Nat × AV)) (qs : List (Nat × Value)) (i : Nat) (done rest : List Value), seqParts i ps = true → all2 (fun (p : Nat × AV) (q : Nat × Value) => p.1 = q.1 ∧ p.2.rel β q.2) ps qs → done.length = i → rest.length = ps.length →
    Instr.fill (fun i => some (i * 1, 1)) (done ++ rest).toArray qs = some (done ++ qs.map (·.2)).toArray ∧ all2 (AV.rel1 β) (ps.map (·.2)) (qs.map (·.2))
  | [], [], i, done, rest, _, _, _, hr => by
    have : rest = [] := by simpa using hr
    subst this
    exact ⟨by simp [Instr.fill], trivial⟩
  | (j, v) :: ps, (j', u) :: qs, i, done, rest, hs, ⟨⟨h1, h2⟩, h3⟩, hd, hr => by
    simp only [seqParts, Bool.and_eq_true, decide_eq_true_eq] at hs
    obtain ⟨⟨e1, ho⟩, hs'⟩ := hs
    obtain ⟨r1, r2⟩ := rel1_of_one h2 ho
    simp only at h1 r2
    cases rest with
    | nil => simp at hr
    | cons x rest =>
      obtain ⟨f1, f2⟩ := fill_seq ps qs (i + 1) (done ++ [u]) rest hs' h3 (by simp [hd]) (by simpa using hr)
      refine ⟨?_, r1, f2⟩
      have hj : j' = done.length := by omega
      subst hj
      simp only [Instr.fill]
      rw [r2]
      have hsz : ¬ (decide ((#[u] : Array Value).size ≠ 1) || decide (done.length * 1 + (#[u] : Array Value).size > (done ++ x :: rest).toArray.size)) = true := by simp
      rw [if_neg hsz]
      have hset : (#[u].zipIdx.foldl (fun cs (p : Value × Nat) => cs.setIfInBounds (done.length * 1 + p.2) p.1) (done ++ x :: rest).toArray) = (done ++ [u] ++ rest).toArray := by
        simp
      have e2 := f1
      simp only [List.append_assoc, List.singleton_append] at e2 hset ⊢
      refine Eq.trans (congrArg (fun c => Instr.fill (fun i => some (i * 1, 1)) c qs) hset) ?_
      rw [e2]
      simp
  | [], _ :: _, _, _, _, _, h, _, _ => h.elim
  | _ :: _, [], _, _, _, _, h, _, _ => h.elim
theorem build_nil {P : Program} {w : World} {t e : TypeId} {esz : Nat} {ie : TypeInfo} (hu : P.underlying t = some (.slice e)) (hie : P.info? e = some ie) (hs : ie.size = esz) :
    (Instr.buildSlice t 0 #[]).run P w = .ok (.slice (some ⟨w.heap.size, 0, none⟩) 0 0) (w.alloc (.cells #[] e)) := by
  have e1 := run_underlying hu w
  have e2 := run_sizeOf' (w := w) hie
  rw [hs] at e2
  simp only [Instr.buildSlice, Sem.run_bind, e1, Result.andThen_ok, e2]
  have hno : ¬ 0 * esz > 2 ^ 24 := by simp
  rw [if_neg hno]
  simp only [Nat.zero_mul, if_true, Sem.run_pure, Result.andThen_ok]
  have : Array.range 0 = #[] := by apply Array.toList_inj.1; simp
  simp [newRow, Instr.fill, this]
theorem whole_nil (B X m : Nat) : capRel (Loc.lin B X 0) 0 0 .whole m 0 B X := ⟨rfl, by simp [Loc.lin]⟩
theorem build_flat0 {P : Program} {w : World} {t e : TypeId} {esz : Nat} {ie : TypeInfo} (hu : P.underlying t = some (.slice e)) (hie : P.info? e = some ie) (hs : ie.size = esz) {β : Names} {n : Nat} (hf : ∀ b, n ≤ b → β b = none) (f : FK) :
    SemOk P β n w (Instr.buildSlice t 0 #[]) (.slice true n 0 0 .whole esz) [⟨true, .flat 0 f⟩] := by
  obtain ⟨h2, h3, h4⟩ := alloc_ok (w := w) (bs := [⟨true, .flat 0 f⟩]) (cs := []) e hf ⟨[], [], rfl, rfl, rfl⟩
  obtain ⟨hc1, _⟩ := h3
  exact ⟨_, _, _, build_nil hu hie hs, ⟨_, _, 0, w.heap.size, 0, hc1, rfl, Nat.le_refl _, by simp, .inr rfl, whole_nil _ _ _⟩, h2, h4⟩
theorem build_hdr0 {P : Program} {w : World} {t e : TypeId} {esz : Nat} {ie : TypeInfo} (hu : P.underlying t = some (.slice e)) (hie : P.info? e = some ie) (hs : ie.size = esz) {β : Names} {n : Nat} (hf : ∀ b, n ≤ b → β b = none) (f : FK) :
    SemOk P β n w (Instr.buildSlice t 0 #[]) (.slice true (n + 1) 0 0 .whole esz) [⟨true, .flat 0 f⟩, ⟨true, .hdr n 0 0 (fun _ => 0) (fun _ => 0) none⟩] := by
  have h1 := NewOk.empty w 0 f hf
  obtain ⟨h2, h3, h4⟩ := alloc_ok (w := w) (n := n + 1) (bs := [⟨true, .hdr n 0 0 (fun _ => 0) (fun _ => 0) none⟩]) (cs := []) e h1.none' ⟨[], [], rfl, ⟨⟨_, if_pos rfl, fun i _ => by
    cases hp : (Loc.lin 0 0 0).pl i with
    | none => rfl
    | some p => have := (Loc.lin_pl.1 hp).1; omega⟩, rfl, by simp⟩, rfl⟩
  obtain ⟨hc1, _⟩ := h3
  exact ⟨_, _, _, build_nil hu hie hs, ⟨_, _, 0, w.heap.size, 0, hc1, rfl, Nat.le_refl _, by simp, .inr rfl, whole_nil _ _ _⟩, NewOk.append hf h1 h2 (Nat.le_refl _) h4, h4⟩
theorem strParts_ok {β : Names} : ∀ {ps : List (Nat × AV)} {ys : List (Nat × Value)} {i : Nat} {l : List ByteArray}, strParts i ps = some l → all2 (fun (p : Nat × AV) (q : Nat × Value) => p.1 = q.1 ∧ p.2.rel β q.2) ps ys →
    ys.map (·.2) = l.map Value.string
  | [], [], i, l, h, _ => by simp [strParts] at h; subst h; rfl
  | (j, v) :: ps, (j', y) :: ys, i, l, h, ⟨⟨_, h2⟩, h3⟩ => by
    cases v <;> simp only [strParts] at h <;> try contradiction
    rename_i s
    split at h
    · split at h
      · rename_i r hr
        cases h
        have ih := strParts_ok hr h3
        cases h2
        simp [ih]
      · cases h
    · cases h
  | [], _ :: _, _, _, _, h => h.elim
  | _ :: _, [], _, _, _, h => h.elim
theorem xbuildSlice_ok {E : Env} (hE : laysOk E.P E.lays = true) {n : Nat} {t : TypeId} {len : Nat} {ps : List (Nat × AV)} {v : AV} {nb : Heap} (h : xbuildSlice E n t len ps = some (v, nb)) {β : Names} (hf : ∀ b, n ≤ b → β b = none) (w : World) (ys : Array (Nat × Value))
    (hy : all2 (fun (p : Nat × AV) (q : Nat × Value) => p.1 = q.1 ∧ p.2.rel β q.2) ps ys.toList) : SemOk E.P β n w (Instr.buildSlice t len ys) v nb := by
  unfold xbuildSlice at h
  split at h
  · rename_i e esz eb hl
    obtain ⟨hu, _, ie, z, hie, hs, hby, hpos, hz, hzs⟩ := lay_slice (laysOk_at hE hl)
    split at h
    · rename_i hmax
      have e1 := run_underlying hu w
      have e2 := run_sizeOf' (w := w) hie
      rw [hs] at e2
      have e3 : (zeroValue e).run E.P w = .ok z w := by simp [zeroValue, typeInfo, hie, hz]
      have fin : ∀ (k : IntKind) (k' : IntKind) (m : Nat) (g : Nat → Int), z.cells.toList = List.replicate esz (.int k 0) → fillAll (fun i => some (i * esz, esz)) ps (zruns0 [(k, len * esz)]) = some [⟨k', m, g⟩] →
          SemOk E.P β n w (Instr.buildSlice t len ys) (.slice true n 0 len (.exact len) esz) [⟨true, .flat m (.ints k' g)⟩] := by
        intro k k' m g hzc hfl
        have h1 := fillAll_ok hfl hy
        have hcells : ((Array.range (len * esz)).map fun x => (if len * esz = 0 then #[] else z.cells)[x % (if len * esz = 0 then #[] else z.cells).size]!) = (cellsOf (zruns0 [(k, len * esz)])).toArray := by
          apply Array.toList_inj.1
          have hz2 : cellsOf (zruns0 [(k, len * esz)]) = List.replicate (len * esz) (.int k 0) := by simp [zruns0, cellsOf, cells_zero]
          rw [hz2]
          apply List.ext_getElem
          · simp
          · intro i h1 h2
            have hlt : i < len * esz := by simpa using h1
            have hne : ¬ len * esz = 0 := by omega
            simp only [hne, if_false]
            simp only [Array.toList_map, Array.toList_range, List.getElem_map, List.getElem_range, List.getElem_replicate]
            have hm : i % z.cells.size < z.cells.size := Nat.mod_lt _ (by omega)
            rw [getElem!_pos z.cells _ hm]
            have : z.cells[i % z.cells.size] = z.cells.toList[i % z.cells.size]'(by simpa using hm) := by simp
            rw [this]
            have h5 : ∀ (l : List Value) (hl : l = List.replicate esz (.int k 0)) (j : Nat) (hj : j < l.length), l[j] = .int k 0 := by
              intro l hl j hj; subst hl; simp
            exact h5 _ hzc _ _
        have hlen : m = len * esz := by
          have := (fillAll_length hfl)
          simpa [zruns0, cellsOf, Run.cells_length] using this
        have hr : blksRel β [⟨true, .flat m (.ints k' g)⟩] (cellsOf [⟨k', m, g⟩]) := blksRel_runs β [⟨k', m, g⟩]
        obtain ⟨h2, h3, h4⟩ := alloc_ok (w := w) e hf hr
        refine ⟨.slice (some ⟨w.heap.size, 0, none⟩) len len, _, _, ?_, ?_, h2, h4⟩
        · simp only [Instr.buildSlice, Sem.run_bind, e1, Result.andThen_ok, e2]
          have hno : ¬ len * esz > 2 ^ 24 := by simp only [show (2 : Nat) ^ 24 = 16777216 from rfl]; omega
          rw [if_neg hno]
          by_cases h0 : len * esz = 0
          · simp only [h0, if_true] at hcells ⊢
            simp only [Sem.run_bind, Sem.run_pure, Result.andThen_ok]
            rw [h0] at h1
            rw [hcells, h1]
            simp [newRow]
          · simp only [if_neg h0] at hcells ⊢
            simp only [Sem.run_bind, e3, Sem.run_pure, Result.andThen_ok]
            rw [hcells, h1]
            simp [newRow]
        · obtain ⟨hc1, _⟩ := h3
          exact ⟨_, _, len, w.heap.size, 0, hc1, rfl, Nat.le_refl _, by simp, .inr rfl, rfl, Loc.lin_span (by simp [Blk.size, hlen])⟩
      have fin2 : ∀ (x : Blk), esz = 1 ∧ seqParts 0 ps = true ∧ ps.length = len → (all2 (AV.rel1 β) (ps.map (·.2)) (ys.toList.map (·.2)) → x.cellsRel β (ys.toList.map (·.2))) → SemOk E.P β n w (Instr.buildSlice t len ys) (.slice true n 0 len (.exact len) esz) [x] := by
        rintro x ⟨c1, c2, c3⟩ hx
        subst c1
        have hlq : ps.length = ys.toList.length := all2_length hy
        obtain ⟨f1, f2⟩ := fill_seq (β := β) ps ys.toList 0 [] ((List.range (len * 1)).map fun x => (if len * 1 = 0 then #[] else z.cells)[x % (if len * 1 = 0 then #[] else z.cells).size]!) c2 hy rfl (by simp [c3])
        simp only [List.nil_append] at f1
        have hx2 := hx f2
        have hsz := Blk.cellsRel_length hx2
        have hr : blksRel β [x] (ys.toList.map (·.2)) := ⟨_, [], by simp, hx2, rfl⟩
        obtain ⟨h2, h3, h4⟩ := alloc_ok (w := w) e hf hr
        refine ⟨.slice (some ⟨w.heap.size, 0, none⟩) len len, _, _, ?_, ?_, h2, h4⟩
        · simp only [Instr.buildSlice, Sem.run_bind, e1, Result.andThen_ok, e2]
          have hno : ¬ len * 1 > 2 ^ 24 := by simp only [show (2 : Nat) ^ 24 = 16777216 from rfl]; omega
          rw [if_neg hno]
          have f3 : Instr.fill (fun i => some (i * 1, 1)) ((Array.range (len * 1)).map fun x => (if len * 1 = 0 then #[] else z.cells)[x % (if len * 1 = 0 then #[] else z.cells).size]!) ys.toList = some (ys.toList.map (·.2)).toArray := by
            rw [← f1]
            congr 1
            apply Array.toList_inj.1
            simp
          by_cases h0 : len * 1 = 0
          · simp only [h0, if_true] at f3 ⊢
            simp only [Sem.run_bind, Sem.run_pure, Result.andThen_ok]
            rw [f3]
            simp [newRow]
          · simp only [if_neg h0] at f3 ⊢
            simp only [Sem.run_bind, e3, Sem.run_pure, Result.andThen_ok]
            rw [f3]
            simp [newRow]
        · obtain ⟨hc1, _⟩ := h3
          refine ⟨_, _, len, w.heap.size, 0, hc1, rfl, Nat.le_refl _, by simp, .inr rfl, rfl, Loc.lin_span ?_⟩
          rw [← hsz]; simp; rw [← Array.length_toList, ← hlq, c3]; exact Nat.le_refl _
      split at h
      · have hys : ys = #[] := by
          have : ys.toList.length = 0 := by rw [← all2_length hy]; rfl
          apply Array.toList_inj.1
          simpa using this
        subst hys
        split at h
        · cases h; exact build_flat0 hu hie hs hf _
        · cases h; exact build_flat0 hu hie hs hf _
        · cases h; exact build_flat0 hu hie hs hf _
        · split at h
          · cases h; exact build_hdr0 hu hie hs hf _
          · cases h
        · cases h
      · split at h
        · rename_i k hle
          obtain ⟨_, i', hi', _, hz'⟩ := lay_int (laysOk_at hE hle)
          rw [hie] at hi'; cases hi'
          rw [hz] at hz'; cases hz'
          split at h
          · rename_i k' m g hfl
            cases h
            have h1 : esz = 1 := by simpa [Value.cells] using hzs.symm
            exact fin k k' m g (by subst h1; rfl) hfl
          · cases h
        · rename_i len' e' esz' k hle
          obtain ⟨_, ⟨i', hi', hs', hz'⟩, _⟩ := lay_arr (laysOk_at hE hle)
          rw [hie] at hi'; cases hi'
          rw [hz] at hz'; cases hz'
          split at h
          · rename_i k' m g hfl
            cases h
            refine fin k k' m g ?_ hfl
            rw [hs] at hs'
            simp [Value.cells, zruns0, cellsOf, cells_zero, hs']
          · cases h
        · split at h
          · rename_i l hsp
            split at h
            · rename_i hc
              cases h
              refine fin2 _ hc fun _ => ?_
              have hm := strParts_ok hsp hy
              have hll : l.length = len := by
                have := congrArg List.length hm
                simp only [List.length_map] at this
                rw [← this, ← all2_length hy, hc.2.2]
              simp only [Blk.cellsRel]
              rw [hm]
              apply List.ext_getElem
              · simp [FK.cells, hll]
              · intro i h1 h2
                have h3 : i < l.length := by simpa using h1
                simp [FK.cells, FK.at, h3]
            · cases h
          · cases h
        · split at h
          · rename_i hc; cases h; exact fin2 _ hc fun h => h
          · cases h
        · split at h
          · rename_i hc; cases h; exact fin2 _ hc fun h => h
          · cases h
        · cases h
    · cases h
  · cases h
def xmakeSlice (E : Env) (n : Nat) (t : TypeId) (l c : AV) (k : AV → Heap → Option ρ) : Option ρ :=
  match l, c, E.lay t with
  | .int _ l, .int _ c, some (.slice e esz eb) => (match E.lay e with
    | some (.int kd) | some (.arr _ _ _ kd) =>
      if 0 ≤ l ∧ l ≤ c ∧ (eb : Int) * c ≤ 1099511627776 ∧ c ≤ 1099511627776 then k (.slice true n 0 l.toNat (.exact c.toNat) esz) [⟨true, .flat (c.toNat * esz) (.ints kd fun _ => 0)⟩] else none
    | some (.slice e2 _ _) => (match E.lay e2 with
      | some (.int kd) => if 0 ≤ l ∧ l ≤ c ∧ (eb : Int) * c ≤ 1099511627776 ∧ c ≤ 1099511627776 then k (.slice true (n + 1) 0 l.toNat (.exact c.toNat) esz) [⟨true, .flat 0 (.ints kd fun _ => 0)⟩, ⟨true, .hdr n c.toNat 0 (fun _ => 0) (fun _ => 0) (some fun _ => 0)⟩] else none
      | _ => none)
    | _ => none)
  | _, _, _ => none
theorem made_zero {z : Array Value} {kd : IntKind} {esz m : Nat} (hz : z.toList = List.replicate esz (.int kd 0)) (hpos : 0 < esz) : madeCells z m = (Run.cells ⟨kd, m, fun _ => 0⟩).toArray := by
  apply Array.toList_inj.1
  have hs : z.size = esz := by rw [← Array.length_toList, hz]; simp
  apply List.ext_getElem
  · simp [madeCells, Run.cells]
  · intro i h1 h2
    simp only [madeCells, Array.toList_map, Array.toList_range, List.getElem_map, List.getElem_range, Run.cells]
    have hm : i % z.size < z.size := Nat.mod_lt _ (by omega)
    rw [getElem!_pos z _ hm]
    have : z[i % z.size] = z.toList[i % z.size]'(by simpa using hm) := by simp
    rw [this]
    have h5 : ∀ (l : List Value) (hl : l = List.replicate esz (.int kd 0)) (j : Nat) (hj : j < l.length), l[j] = .int kd 0 := by
      intro l hl j hj; subst hl; simp
    exact h5 _ hz _ _
theorem elem_zero {E : Env} (hE : laysOk E.P E.lays = true) {e : TypeId} {esz : Nat} {kd : IntKind} {z : Value} {ie : TypeInfo} (hie : E.P.info? e = some ie) (hs : ie.size = esz) (hz : ie.zero = some z)
    (h : E.lay e = some (.int kd) ∨ ∃ a b c, E.lay e = some (.arr a b c kd)) : z.cells.toList = List.replicate esz (.int kd 0) := by
  rcases h with h | ⟨a, b, c, h⟩
  · obtain ⟨_, i', hi', hs', hz'⟩ := lay_int (laysOk_at hE h)
    rw [hie] at hi'; cases hi'
    rw [hz] at hz'; cases hz'
    rw [← hs, hs']; rfl
  · obtain ⟨_, ⟨i', hi', hs', hz'⟩, _⟩ := lay_arr (laysOk_at hE h)
    rw [hie] at hi'; cases hi'
    rw [hz] at hz'; cases hz'
    rw [hs] at hs'
    simp [Value.cells, zruns0, cellsOf, cells_zero, hs']
theorem xmakeSlice_ok {E : Env} (hE : laysOk E.P E.lays = true) {n : Nat} {t : TypeId} {l c : AV} {k : AV → Heap → Option ρ} {r : ρ} (h : xmakeSlice E n t l c k = some r) :
    ∃ v nb, k v nb = some r ∧ ∀ (β : Names) (_ : ∀ b, n ≤ b → β b = none) (w : World) (y z : Value), l.rel β y → c.rel β z → SemOk E.P β n w (Instr.makeSlice t y z) v nb := by
  have fin : ∀ {kl kc : IntKind} {l c : Int} {e : TypeId} {esz eb : Nat} {kd : IntKind}, E.lay t = some (.slice e esz eb) → (E.lay e = some (.int kd) ∨ ∃ a b c, E.lay e = some (.arr a b c kd)) →
      0 ≤ l ∧ l ≤ c ∧ (eb : Int) * c ≤ 1099511627776 ∧ c ≤ 1099511627776 → ∀ (β : Names) (_ : ∀ b, n ≤ b → β b = none) (w : World), SemOk E.P β n w (Instr.makeSlice t (.int kl l) (.int kc c)) (.slice true n 0 l.toNat (.exact c.toNat) esz) [⟨true, .flat (c.toNat * esz) (.ints kd fun _ => 0)⟩] := by
    intro kl kc l c e esz eb kd hl hk hc β hf w
    obtain ⟨hu, _, ie, z, hie, hs, hby, hpos, hz, hzs⟩ := lay_slice (laysOk_at hE hl)
    have hzc := elem_zero hE hie hs hz hk
    have hr := run_make (P := E.P) w t e ie z hu hie hz kl kc l c hc.1 hc.2.1 (by rw [hby]; omega) (by omega)
    rw [hs, made_zero hzc hpos] at hr
    have hb : blksRel β [⟨true, .flat (c.toNat * esz) (.ints kd fun _ => 0)⟩] (cellsOf [⟨kd, c.toNat * esz, fun _ => 0⟩]) := blksRel_runs β [⟨kd, c.toNat * esz, fun _ => 0⟩]
    rw [agg_one] at hb
    obtain ⟨h2, h3, h4⟩ := alloc_ok (w := w) e hf hb
    refine ⟨_, _, _, hr, ?_, h2, h4⟩
    obtain ⟨hc1, _⟩ := h3
    exact ⟨_, _, c.toNat, w.heap.size, 0, hc1, rfl, by omega, by simp, .inr rfl, rfl, Loc.lin_span (by simp [Blk.size])⟩
  unfold xmakeSlice at h
  split at h
  · rename_i kl l kc c e esz eb hl
    split at h
    · rename_i kd hle
      split at h
      · rename_i hc
        exact ⟨_, _, h, fun β hf w y z hy hz => by cases hy; cases hz; exact fin hl (.inl hle) hc β hf w⟩
      · cases h
    · rename_i a b d kd hle
      split at h
      · rename_i hc
        exact ⟨_, _, h, fun β hf w y z hy hz => by cases hy; cases hz; exact fin hl (.inr ⟨a, b, d, hle⟩) hc β hf w⟩
      · cases h
    · rename_i e2 n2 m2 hle
      split at h
      · rename_i kd hle2
        split at h
        · rename_i hc
          refine ⟨_, _, h, fun β hf w y z hy hz => ?_⟩
          cases hy; cases hz
          obtain ⟨hu, _, ie, z, hie, hs, hby, hpos, hz, hzs⟩ := lay_slice (laysOk_at hE hl)
          obtain ⟨_, ⟨i', hi', hs', hz'⟩, _⟩ := lay_slice (laysOk_at hE hle)
          rw [hie] at hi'; cases hi'
          rw [hz] at hz'; cases hz'
          have hr := run_make (P := E.P) w t e ie _ hu hie hz kl kc l c hc.1 hc.2.1 (by rw [hby]; omega) (by omega)
          have h1 : esz = 1 := by rw [← hs, hs']
          subst h1
          have hmc : madeCells (Value.slice none 0 0).cells (c.toNat * 1) = (List.replicate c.toNat (Value.slice none 0 0)).toArray := by
            apply Array.toList_inj.1
            apply List.ext_getElem
            · simp [madeCells]
            · intro i h1 h2
              simp only [madeCells, Array.toList_map, Array.toList_range, List.getElem_map, List.getElem_range, List.getElem_replicate]
              have : (Value.slice none 0 0).cells.size = 1 := rfl
              rw [this, Nat.mod_one]; rfl
          rw [hs, hmc] at hr
          have h0 := NewOk.empty w 0 (.ints kd fun _ => 0) hf
          have hcr : Blk.cellsRel (fun b => if b = n then some (Loc.lin 0 0 0) else β b) ⟨true, .hdr n c.toNat 0 (fun _ => 0) (fun _ => 0) (some fun _ => 0)⟩ (List.replicate c.toNat (Value.slice none 0 0)) := by
            refine ⟨⟨_, if_pos rfl, fun i _ => ?_⟩, by simp, fun i u hu => ?_⟩
            · cases hp : (Loc.lin 0 0 0).pl i with
              | none => rfl
              | some p => have := (Loc.lin_pl.1 hp).1; omega
            · have : u = .slice none 0 0 := List.eq_of_mem_replicate (List.mem_of_getElem? hu)
              subst this
              exact ⟨Loc.lin 0 0 0, none, 0, 0, 0, if_pos rfl, rfl, Nat.le_refl _, by simp, .inl rfl, rfl, fun j hj => absurd hj (by simp)⟩
          obtain ⟨h2, h3, h4⟩ := alloc_ok (w := w) (n := n + 1) (bs := [⟨true, .hdr n c.toNat 0 (fun _ => 0) (fun _ => 0) (some fun _ => 0)⟩]) (cs := List.replicate c.toNat (Value.slice none 0 0)) e h0.none' ⟨_, [], by simp, hcr, rfl⟩
          obtain ⟨hc1, _⟩ := h3
          exact ⟨_, _, _, hr, ⟨_, _, c.toNat, w.heap.size, 0, hc1, rfl, by omega, by simp, .inr rfl, rfl, Loc.lin_span (by simp [Blk.size])⟩, NewOk.append hf h0 h2 (Nat.le_refl _) h4, h4⟩
        · cases h
      · cases h
    · cases h
  · cases h
def bound (d : Int) : Option AV → Option Int
  | none => some d
  | some (.int _ n) => some n
  | _ => none
def xslice (E : Env) (t : TypeId) (x : AV) (lo hi mx : Option AV) (k : AV → Option ρ) : Option ρ :=
  match mx with
  | some _ => none
  | none => (match E.lay t, x with
    | some (.slice _ esz _), .slice nn b o len cap esz' => (match bound 0 lo, bound len hi with
      | some l, some h => if esz' = esz then (match cap with
          | .exact c => if 0 ≤ l ∧ l ≤ h ∧ h ≤ (c : Int) then k (.slice nn b (o + l.toNat * esz) (h.toNat - l.toNat) (.exact (c - l.toNat)) esz) else none
          | _ => if 0 ≤ l ∧ l ≤ h ∧ h ≤ (len : Int) then k (.slice nn b (o + l.toNat * esz) (h.toNat - l.toNat) .unk esz) else none) else none
      | _, _ => none)
    | some (.slice _ _ _), .nils => (match bound 0 lo, bound 0 hi with
      | some l, some h => if 0 ≤ l ∧ l ≤ h ∧ h ≤ 0 then k .nils else none
      | _, _ => none)
    | some (.arr len _ esz _), .sptr [(b, n)] => (match bound 0 lo, bound len hi with
      | some l, some h => if n = len * esz then (if 0 ≤ l ∧ l ≤ h ∧ h ≤ (len : Int) then k (.slice true b (l.toNat * esz) (h.toNat - l.toNat) (.exact (len - l.toNat)) esz) else none) else none
      | _, _ => none)
    | some (.arr len _ esz _), .ptr b o n => (match bound 0 lo, bound len hi with
      | some l, some h => if n = len * esz then (if 0 ≤ l ∧ l ≤ h ∧ h ≤ (len : Int) then k (.slice true b (o + l.toNat * esz) (h.toNat - l.toNat) (.exact (len - l.toNat)) esz) else none) else none
      | _, _ => none)
    | some .str, .str s => (match bound 0 lo, bound s.size hi with
      | some l, some h => if 0 ≤ l ∧ l ≤ h ∧ h ≤ (s.size : Int) then k (.str (s.extract l.toNat h.toNat)) else none
      | _, _ => none)
    | _, _ => none)
theorem bounds_run {P : Program} {w : World} {isSl : Bool} {β : Names} {len cap : Nat} {lo hi : Option AV} {l h : Int} (hl : bound 0 lo = some l) (hh : bound len hi = some h) (h0 : 0 ≤ l) (h1 : l ≤ h) (h2 : h ≤ (cap : Int)) {lo' hi' : Option Value}
    (rl : ∀ a, lo = some a → ∃ y, lo' = some y ∧ a.rel β y) (nl : lo = none → lo' = none) (rh : ∀ a, hi = some a → ∃ y, hi' = some y ∧ a.rel β y) (nh : hi = none → hi' = none) :
    (Instr.sliceBounds isSl len cap lo' hi' none).run P w = .ok (l.toNat, h.toNat, cap) w := by
  have eh : hi' = none ∧ h = len ∨ ∃ k, hi' = some (.int k h) := by
    cases hi with
    | none => simp [bound] at hh; exact .inl ⟨nh rfl, hh.symm⟩
    | some a =>
      obtain ⟨y, hy, hr⟩ := rh a rfl
      cases a <;> simp [bound] at hh
      subst hh; cases hr
      exact .inr ⟨_, hy⟩
  have el : lo' = none ∧ l = 0 ∨ ∃ k, lo' = some (.int k l) := by
    cases lo with
    | none => simp [bound] at hl; exact .inl ⟨nl rfl, hl.symm⟩
    | some a =>
      obtain ⟨y, hy, hr⟩ := rl a rfl
      cases a <;> simp [bound] at hl
      subst hl; cases hr
      exact .inr ⟨_, hy⟩
  have e1 : 0 ≤ h := by omega
  have e2 : l ≤ (h.toNat : Int) := by omega
  rcases eh with ⟨rfl, rfl⟩ | ⟨k, rfl⟩ <;> rcases el with ⟨rfl, rfl⟩ | ⟨k', rfl⟩
  · simp [Instr.sliceBounds]
  · have e3 : l ≤ (len : Int) := by omega
    simp [Instr.sliceBounds, Instr.sliceBound, asIntOf, h0, e3]
  · simp [Instr.sliceBounds, Instr.sliceBound, asIntOf, e1, h2]
  · have e3 : ¬ max h 0 < l := by omega
    simp [Instr.sliceBounds, Instr.sliceBound, asIntOf, e1, h2, h0]
    intro hx; exact absurd hx e3
theorem xslice_ok {E : Env} (hE : laysOk E.P E.lays = true) {t : TypeId} {x : AV} {lo hi mx : Option AV} {k : AV → Option ρ} {r : ρ} (h : xslice E t x lo hi mx k = some r) :
    ∃ v, k v = some r ∧ mx = none ∧ ∀ (β : Names) (w : World) (y : Value) (lo' hi' : Option Value), x.rel β y → (∀ a, lo = some a → ∃ y, lo' = some y ∧ a.rel β y) → (lo = none → lo' = none) → (∀ a, hi = some a → ∃ y, hi' = some y ∧ a.rel β y) → (hi = none → hi' = none) →
      ∃ u, (Instr.sliceAt t y lo' hi' none).run E.P w = .ok u w ∧ v.rel β u := by
  unfold xslice at h
  split at h
  · cases h
  · split at h
    · rename_i e esz eb nn b o len cap esz' hl
      obtain ⟨hu, _, ie, z, hie, hs, _, hpos, _⟩ := lay_slice (laysOk_at hE hl)
      split at h
      · rename_i l hh hbl hbh
        split at h
        · rename_i hesz
          subst hesz
          have fin : ∀ (cap' : Cap) (β : Names) (w : World) (lo' hi' : Option Value) (L : Loc) (ao : Option Addr) (c' B X : Nat), β b = some L → 0 ≤ l → l ≤ hh → hh ≤ (c' : Int) → (nn = true → ao ≠ none) → (c' = 0 ∨ ao = some ⟨B, X, none⟩) → capRel L (o + l.toNat * esz') (hh.toNat - l.toNat) cap' esz' (c' - l.toNat) B (X + l.toNat * esz') →
              (∀ a, lo = some a → ∃ y, lo' = some y ∧ a.rel β y) → (lo = none → lo' = none) → (∀ a, hi = some a → ∃ y, hi' = some y ∧ a.rel β y) → (hi = none → hi' = none) →
              ∃ u, (Instr.sliceAt t (.slice ao len c') lo' hi' none).run E.P w = .ok u w ∧ sliceRel β nn b (o + l.toNat * esz') (hh.toNat - l.toNat) cap' esz' u := by
            intro cap' β w lo' hi' L ao c' B X hL h0 h1 h2 hnn ha hcr rl nl rh nh
            have e1 := run_underlying hu w
            have e2 := run_sizeOf' (w := w) hie
            rw [hs] at e2
            have e3 := bounds_run (P := E.P) (w := w) (isSl := true) (cap := c') hbl hbh h0 h1 h2 rl nl rh nh
            have e4 : (Instr.sliceAt t (.slice ao len c') lo' hi' none).run E.P w = .ok (.slice (if c' = l.toNat then ao else ao.map (·.add (l.toNat * esz'))) (hh.toNat - l.toNat) (c' - l.toNat)) w := by
              simp [Instr.sliceAt, Instr.slice, e1, e3, e2]
            refine ⟨_, e4, L, _, _, B, X + l.toNat * esz', hL, rfl, by omega, fun hn => ?_, ?_, hcr⟩
            · have := hnn hn
              split
              · exact this
              · simpa using this
            · by_cases hcl : c' = l.toNat
              · exact .inl (by omega)
              · rcases ha with ha | ha
                · omega
                · rw [if_neg hcl, ha]; exact .inr (by simp [add_mk])
          split at h
          · rename_i c
            split at h
            · rename_i hc
              refine ⟨_, h, rfl, fun β w y lo' hi' hy rl nl rh nh => ?_⟩
              obtain ⟨L, ao, c', B, X, hL, rfl, hle, hnn, ha, rfl, hsp⟩ := hy
              have hm : l.toNat * esz' + (c' - l.toNat) * esz' = c' * esz' := by rw [← Nat.add_mul]; congr 1; omega
              exact fin _ β w lo' hi' L ao c' B X hL hc.1 hc.2.1 hc.2.2 hnn ha ⟨rfl, Loc.span_sub hsp (by omega)⟩ rl nl rh nh
            · cases h
          · split at h
            · rename_i hc
              refine ⟨_, h, rfl, fun β w y lo' hi' hy rl nl rh nh => ?_⟩
              obtain ⟨L, ao, c', B, X, hL, rfl, hle, hnn, ha, hcr⟩ := hy
              have hm : l.toNat * esz' + (hh.toNat - l.toNat) * esz' = hh.toNat * esz' := by rw [← Nat.add_mul]; congr 1; omega
              have hm2 : hh.toNat * esz' ≤ len * esz' := Nat.mul_le_mul_right _ (by omega)
              exact fin _ β w lo' hi' L ao c' B X hL hc.1 hc.2.1 (by omega) hnn ha (Loc.span_sub (capRel_span hle hcr) (by omega)) rl nl rh nh
            · cases h
        · cases h
      · cases h
    · rename_i e esz eb hl
      obtain ⟨hu, _, ie, z, hie, hs, _, hpos, _⟩ := lay_slice (laysOk_at hE hl)
      split at h
      · rename_i l hh hbl hbh
        split at h
        · rename_i hc
          refine ⟨_, h, rfl, fun β w y lo' hi' hy rl nl rh nh => ?_⟩
          have hy' : y = .slice none 0 0 := hy
          subst hy'
          have e1 := run_underlying hu w
          have e2 := run_sizeOf' (w := w) hie
          have e3 := bounds_run (P := E.P) (w := w) (isSl := true) (len := 0) (cap := 0) hbl hbh hc.1 hc.2.1 hc.2.2 rl nl rh nh
          have l0 : l = 0 := by omega
          have h0 : hh = 0 := by omega
          subst l0; subst h0
          refine ⟨.slice none 0 0, ?_, rfl⟩
          simp [Instr.sliceAt, Instr.slice, e1, e3, e2]
        · cases h
      · cases h
    · rename_i len e esz kd b n hl
      obtain ⟨hu, _, ⟨ie, hie, hs⟩, _⟩ := lay_arr (laysOk_at hE hl)
      split at h
      · rename_i l hh hbl hbh
        split at h
        · rename_i hn
          split at h
          · rename_i hc
            refine ⟨_, h, rfl, fun β w y lo' hi' hy rl nl rh nh => ?_⟩
            obtain ⟨blk, base, hL, rfl⟩ := sptr_one hy
            have e1 := run_underlying hu w
            have e2 := run_sizeOf' (w := w) hie
            rw [hs] at e2
            have e3 := bounds_run (P := E.P) (w := w) (isSl := false) hbl hbh hc.1 hc.2.1 hc.2.2 rl nl rh nh
            have e4 : (Instr.sliceAt t (.pointer (some ⟨blk, base, none⟩)) lo' hi' none).run E.P w = .ok (.slice (some (if len = l.toNat then ⟨blk, base, none⟩ else (⟨blk, base, none⟩ : Addr).add (l.toNat * esz))) (hh.toNat - l.toNat) (len - l.toNat)) w := by
              simp [Instr.sliceAt, Instr.sureAddr, e1, e3, e2]
            have hm : l.toNat * esz + (len - l.toNat) * esz = len * esz := by rw [← Nat.add_mul]; congr 1; omega
            refine ⟨_, e4, _, _, _, blk, base + l.toNat * esz, hL, rfl, by omega, by simp, ?_, rfl, Loc.lin_span (by omega)⟩
            by_cases hcl : len = l.toNat
            · exact .inl (by omega)
            · rw [if_neg hcl, add_mk]; exact .inr rfl
          · cases h
        · cases h
      · cases h
    · rename_i len e esz kd b o n hl
      obtain ⟨hu, _, ⟨ie, hie, hs⟩, _⟩ := lay_arr (laysOk_at hE hl)
      split at h
      · rename_i l hh hbl hbh
        split at h
        · rename_i hn
          split at h
          · rename_i hc
            refine ⟨_, h, rfl, fun β w y lo' hi' hy rl nl rh nh => ?_⟩
            obtain ⟨L, B, X, hL, rfl, hin⟩ := hy
            have e1 := run_underlying hu w
            have e2 := run_sizeOf' (w := w) hie
            rw [hs] at e2
            have e3 := bounds_run (P := E.P) (w := w) (isSl := false) hbl hbh hc.1 hc.2.1 hc.2.2 rl nl rh nh
            have e4 : (Instr.sliceAt t (.pointer (some ⟨B, X, none⟩)) lo' hi' none).run E.P w = .ok (.slice (some (if len = l.toNat then ⟨B, X, none⟩ else (⟨B, X, none⟩ : Addr).add (l.toNat * esz))) (hh.toNat - l.toNat) (len - l.toNat)) w := by
              simp [Instr.sliceAt, Instr.sureAddr, e1, e3, e2]
            have hm : l.toNat * esz + (len - l.toNat) * esz = len * esz := by rw [← Nat.add_mul]; congr 1; omega
            refine ⟨_, e4, L, _, _, B, X + l.toNat * esz, hL, rfl, by omega, by simp, ?_, rfl, Loc.span_sub hin (by omega)⟩
            by_cases hcl : len = l.toNat
            · exact .inl (by omega)
            · rw [if_neg hcl, add_mk]; exact .inr rfl
          · cases h
        · cases h
      · cases h
    · rename_i s hl
      obtain ⟨hu, _⟩ := lay_str (laysOk_at hE hl)
      split at h
      · rename_i l hh hbl hbh
        split at h
        · rename_i hc
          refine ⟨_, h, rfl, fun β w y lo' hi' hy rl nl rh nh => ?_⟩
          cases hy
          have e1 := run_underlying hu w
          have e3 := bounds_run (P := E.P) (w := w) (isSl := false) hbl hbh hc.1 hc.2.1 hc.2.2 rl nl rh nh
          exact ⟨_, by simp [Instr.sliceAt, Instr.slice, e1, e3], rfl⟩
        · cases h
      · cases h
    · cases h
end
end Go.Proofs.YtoeailachidcdaaGreatDoor.Hg
