import Derived.Test.YtoeailachidcdaaGreatDoorHgSem
namespace Go.Proofs.YtoeailachidcdaaGreatDoor.Hg
set_option linter.unusedVariables false
set_option linter.unusedSimpArgs false
set_option linter.unusedSectionVars false
open Go Go.RowKit
variable [Gl : Glob]
section
variable {ρ : Type}
def xindexAddr (E : Env) (t : TypeId) (x ix : AV) (k : AV → Option ρ) : Option ρ :=
  match ix with
  | .int _ i => (match E.lay t with
    | some (.arr len _ esz _) => (match x with
      | .sptr [(b, n)] => if n = len * esz then (if 0 ≤ i ∧ i < (len : Int) then k (.ptr b (i.toNat * esz) esz) else none) else none
      | .ptr b o n => if n = len * esz then (if 0 ≤ i ∧ i < (len : Int) then k (.ptr b (o + i.toNat * esz) esz) else none) else none
      | _ => none)
    | some (.barr len _) => (match x with
      | .sptr [(b, n)] => if n = len then (if 0 ≤ i ∧ i < (len : Int) then k (.ptr b i.toNat 1) else none) else none
      | _ => none)
    | some (.slice _ esz _) => (match x with
      | .slice _ b o len _ esz' => if esz' = esz then (if 0 ≤ i ∧ i < (len : Int) then k (.ptr b (o + i.toNat * esz) esz) else none) else none
      | _ => none)
    | _ => none)
  | _ => none
theorem lay_slice {P : Program} {t e : TypeId} {n m : Nat} (h : Lay.chk P t (.slice e n m) = true) :
    P.underlying t = some (.slice e) ∧ (∃ i, P.info? t = some i ∧ i.size = 1 ∧ i.zero = some (.slice none 0 0)) ∧ ∃ i z, P.info? e = some i ∧ i.size = n ∧ i.bytes = m ∧ 0 < n ∧ i.zero = some z ∧ z.cells.size = n := by
  simp only [Lay.chk, Bool.and_eq_true] at h
  obtain ⟨⟨h1, h2⟩, h3⟩ := h
  refine ⟨?_, ?_, ?_⟩
  · split at h1
    · simp at h1; subst h1; assumption
    · cases h1
  · split at h2
    · rename_i i hi
      simp only [Bool.and_eq_true] at h2
      refine ⟨i, hi, by simpa using h2.1, ?_⟩
      have h4 := h2.2
      split at h4
      · simp at h4; obtain ⟨rfl, rfl⟩ := h4; assumption
      · cases h4
    · cases h2
  · split at h3
    · rename_i i hi
      simp only [Bool.and_eq_true] at h3
      obtain ⟨⟨⟨a, b⟩, c⟩, d⟩ := h3
      split at d
      · rename_i z hz
        exact ⟨i, z, hi, by simpa using a, by simpa using b, Nat.pos_of_ne_zero (by simpa using c), hz, by simpa using d⟩
      · cases d
    · cases h3
theorem run_sizeOf' {P : Program} {w : World} {t : TypeId} {i : TypeInfo} (h : P.info? t = some i) : (sizeOf t).run P w = .ok i.size w := by
  simp [sizeOf, typeInfo, h]
theorem index_addr_arr {P : Program} {w : World} {t e : TypeId} {len n : Nat} {kd : IntKind} (h : Lay.chk P t (.arr len e n kd) = true) (a : Addr) (kk : IntKind) (i : Int) (h0 : 0 ≤ i) (h1 : i < (len : Int)) :
    (Instr.indexAt t (.pointer (some a)) (.int kk i)).run P w = .ok (.pointer (some (a.add (i.toNat * n)))) w := by
  obtain ⟨hu, _, ⟨ie, hie, hs⟩, _⟩ := lay_arr h
  have e1 := run_underlying hu w
  have e2 := run_sizeOf' (w := w) hie
  rw [hs] at e2
  simp [Instr.indexAt, asIntOf, e1, Instr.sureAddr, h0, h1, e2]
theorem lay_barr {P : Program} {t e : TypeId} {len : Nat} (h : Lay.chk P t (.barr len e) = true) :
    P.underlying t = some (.array len e) ∧ (∃ i, P.info? t = some i ∧ i.size = len ∧ i.zero = some (.agg (List.replicate len (.bool false)).toArray)) ∧ (∃ i, P.info? e = some i ∧ i.size = 1) ∧ 0 < len := by
  simp only [Lay.chk, Bool.and_eq_true] at h
  obtain ⟨⟨⟨h1, h2⟩, h3⟩, h4⟩ := h
  refine ⟨?_, ?_, ?_, Nat.pos_of_ne_zero (by simpa using h4)⟩
  · split at h1
    · simp at h1; obtain ⟨rfl, rfl⟩ := h1; assumption
    · cases h1
  · split at h2
    · rename_i i hi
      simp only [Bool.and_eq_true] at h2
      refine ⟨i, hi, by simpa using h2.1, ?_⟩
      have h5 := h2.2
      split at h5
      · rename_i cs hz
        simp only [Bool.and_eq_true, beq_iff_eq] at h5
        rw [hz]
        have e := zbools_eq h5.2
        have el : cs.toList.length = len := by rw [Array.length_toList]; exact h5.1
        rw [el] at e
        rw [← e]
      · cases h5
    · cases h2
  · split at h3
    · rename_i i hi; exact ⟨i, hi, by simpa using h3⟩
    · cases h3
theorem index_addr_barr {P : Program} {w : World} {t e : TypeId} {len : Nat} (h : Lay.chk P t (.barr len e) = true) (a : Addr) (kk : IntKind) (i : Int) (h0 : 0 ≤ i) (h1 : i < (len : Int)) :
    (Instr.indexAt t (.pointer (some a)) (.int kk i)).run P w = .ok (.pointer (some (a.add i.toNat))) w := by
  obtain ⟨hu, _, ⟨ie, hie, hs⟩, _⟩ := lay_barr h
  have e1 := run_underlying hu w
  have e2 := run_sizeOf' (w := w) hie
  rw [hs] at e2
  simp [Instr.indexAt, asIntOf, e1, Instr.sureAddr, h0, h1, e2]
theorem index_addr_slice {P : Program} {w : World} {t e : TypeId} {n m len cap : Nat} (h : Lay.chk P t (.slice e n m) = true) (a : Addr) (kk : IntKind) (i : Int) (h0 : 0 ≤ i) (h1 : i < (len : Int)) :
    (Instr.indexAt t (.slice (some a) len cap) (.int kk i)).run P w = .ok (.pointer (some (a.add (i.toNat * n)))) w := by
  obtain ⟨hu, _, ie, z, hie, hs, _⟩ := lay_slice h
  have e1 := run_underlying hu w
  have e2 := run_sizeOf' (w := w) hie
  rw [hs] at e2
  simp [Instr.indexAt, asIntOf, e1, h0, h1, e2]
theorem mul_fit {i : Int} {len n : Nat} (h0 : 0 ≤ i) (h1 : i < (len : Int)) : i.toNat * n + n ≤ len * n := by
  have : i.toNat + 1 ≤ len := by omega
  calc i.toNat * n + n = (i.toNat + 1) * n := by rw [Nat.add_mul]; simp
    _ ≤ len * n := Nat.mul_le_mul_right n this
theorem capRel_span {L : Loc} {o len : Nat} {cap : Cap} {esz c B X : Nat} (hle : len ≤ c) (h : capRel L o len cap esz c B X) : L.span o (len * esz) B X := by
  cases cap with
  | unk => exact h
  | exact c0 =>
    obtain ⟨rfl, h⟩ := h
    have := Nat.mul_le_mul_right esz hle
    exact fun j hj => h j (by omega)
  | whole =>
    obtain ⟨rfl, rfl⟩ := h
    intro j hj
    exact Loc.grow_pl.2 ⟨by omega, by simp⟩
theorem xindexAddr_ok {E : Env} (hE : laysOk E.P E.lays = true) {t : TypeId} {x ix : AV} {k : AV → Option ρ} {r : ρ} (hx : xindexAddr E t x ix k = some r) :
    ∃ v, k v = some r ∧ ∀ (β : Names) (w : World) (y z : Value), x.rel β y → ix.rel β z → ∃ u, (Instr.indexAt t y z).run E.P w = .ok u w ∧ v.rel β u := by
  unfold xindexAddr at hx
  split at hx
  · rename_i kk i
    split at hx
    · rename_i len e esz kd hl
      have hc := laysOk_at hE hl
      split at hx
      · rename_i b n
        split at hx
        · rename_i hn
          split at hx
          · rename_i hi
            refine ⟨_, hx, fun β w y z hy hz => ?_⟩
            obtain ⟨blk, base, hL, rfl⟩ := sptr_one hy
            cases hz
            have := mul_fit (n := esz) hi.1 hi.2
            exact ⟨_, index_addr_arr hc _ kk i hi.1 hi.2, _, blk, base + i.toNat * esz, hL, by rw [add_mk], Loc.lin_span (by omega)⟩
          · cases hx
        · cases hx
      · rename_i b o n
        split at hx
        · rename_i hn
          split at hx
          · rename_i hi
            refine ⟨_, hx, fun β w y z hy hz => ?_⟩
            obtain ⟨L, B, X, hL, rfl, hin⟩ := hy
            cases hz
            have := mul_fit (n := esz) hi.1 hi.2
            exact ⟨_, index_addr_arr hc _ kk i hi.1 hi.2, L, B, X + i.toNat * esz, hL, by rw [add_mk], Loc.span_sub hin (by omega)⟩
          · cases hx
        · cases hx
      · cases hx
    · rename_i len e hl
      have hc := laysOk_at hE hl
      split at hx
      · rename_i b n
        split at hx
        · rename_i hn
          split at hx
          · rename_i hi
            refine ⟨_, hx, fun β w y z hy hz => ?_⟩
            obtain ⟨blk, base, hL, rfl⟩ := sptr_one hy
            cases hz
            exact ⟨_, index_addr_barr hc _ kk i hi.1 hi.2, _, blk, base + i.toNat, hL, by rw [add_mk], Loc.lin_span (by omega)⟩
          · cases hx
        · cases hx
      · cases hx
    · rename_i e esz ebytes hl
      have hc := laysOk_at hE hl
      split at hx
      · rename_i nn b o len cap esz'
        split at hx
        · rename_i hn
          subst hn
          split at hx
          · rename_i hi
            refine ⟨_, hx, fun β w y z hy hz => ?_⟩
            obtain ⟨L, a, c, B, X, hL, rfl, hle, _, ha, hcap⟩ := hy
            cases hz
            have hc0 : c ≠ 0 := by omega
            obtain rfl := ha.resolve_left hc0
            have := mul_fit (n := esz') hi.1 hi.2
            exact ⟨_, index_addr_slice hc _ kk i hi.1 hi.2, L, B, X + i.toNat * esz', hL, by rw [add_mk], Loc.span_sub (capRel_span hle hcap) (by omega)⟩
          · cases hx
        · cases hx
      · cases hx
    · cases hx
  · cases hx
def locate (c m : Nat) : List (Nat × Nat) → Option AV
  | [] => none
  | (b, n) :: r => if c + m ≤ n then (if c = 0 ∧ m = n then some (.sptr [(b, n)]) else some (.ptr b c m)) else if n ≤ c then locate (c - n) m r else none
def xfieldAddr (E : Env) (t : TypeId) (x : AV) (f : Nat) : Option AV :=
  match E.lay t with
  | some (.struct fs rs) => (match fs[f]? with
    | some (c, m, _) => (match x with
      | .sptr bs => if sizes bs = total rs then locate c m bs else none
      | .ptr b o n => if c + m ≤ n then some (.ptr b (o + c) m) else none
      | _ => none)
    | none => none)
  | some (.mix fs zs) => (match fs[f]? with
    | some (c, m, _) => (match x with
      | .sptr bs => if sizes bs = (zs.map ZF.size).sum then locate c m bs else none
      | _ => none)
    | none => none)
  | _ => none
theorem lay_mix {P : Program} {t : TypeId} {fs : List (Nat × Nat × Bool)} {zs : List ZF} (h : Lay.chk P t (.mix fs zs) = true) :
    (∃ gs : Array Field, P.underlying t = some (.struct gs) ∧ fieldsAre P gs.toList fs = true) ∧ (∃ i cs, P.info? t = some i ∧ i.size = (zs.map ZF.size).sum ∧ i.zero = some (.agg cs) ∧ zfs zs cs.toList = true) ∧ zplaces 0 fs zs = true ∧ zs ≠ [] := by
  simp only [Lay.chk, Bool.and_eq_true] at h
  obtain ⟨⟨⟨h1, h2⟩, h3⟩, h4⟩ := h
  refine ⟨?_, ?_, h3, by simpa using h4⟩
  · split at h1
    · rename_i gs hg; exact ⟨gs, hg, h1⟩
    · cases h1
  · split at h2
    · rename_i i hi
      simp only [Bool.and_eq_true] at h2
      have h5 := h2.2
      split at h5
      · rename_i cs hz; exact ⟨i, cs, hi, by simpa using h2.1, hz, h5⟩
      · cases h5
    · cases h2
theorem locate_ok {β : Names} {c m : Nat} : ∀ {bs : List (Nat × Nat)} {blk base : Nat} {v : AV}, locate c m bs = some v → chained β blk base bs → v.rel β (.pointer (some ⟨blk, base + c, none⟩))
  | [], _, _, _, h, _ => by simp [locate] at h
  | (b, n) :: r, blk, base, v, h, ⟨h1, h2⟩ => by
    induction c using Nat.strongRecOn generalizing v with
    | _ c _ =>
    simp only [locate] at h
    split at h
    · rename_i hle
      split at h
      · rename_i he
        cases h
        obtain ⟨rfl, rfl⟩ := he
        exact ⟨by simp, blk, base, by simp, h1, trivial⟩
      · cases h
        exact ⟨_, blk, base + c, h1, rfl, Loc.lin_span hle⟩
    · split at h
      · rename_i hnc
        have := locate_ok h h2
        rw [show base + n + (c - n) = base + c by omega] at this
        exact this
      · cases h
theorem run_fieldAt {P : Program} {w : World} {t : TypeId} {gs : Array Field} {f : Field} {j n : Nat} (hu : P.underlying t = some (.struct gs)) (hf : gs[j]? = some f) (hs : (P.info? f.type).map (·.size) = some n) (hn : n ≠ 0) (a : Addr) :
    (Instr.fieldAt t (.pointer (some a)) j).run P w = .ok (.pointer (some (a.add f.offset))) w := by
  have e1 := run_underlying hu w
  cases hi : P.info? f.type with
  | none => simp [hi] at hs
  | some i =>
    have hs' : i.size = n := by simpa [hi] using hs
    simp [Instr.fieldAt, e1, hf, Instr.sureAddr, fieldPlace, sizeOf, typeInfo, hi, hs', hn]
theorem xfieldAddr_ok {E : Env} (hE : laysOk E.P E.lays = true) {t : TypeId} {x v : AV} {f : Nat} (hx : xfieldAddr E t x f = some v) (β : Names) (w : World) (y : Value) (hy : x.rel β y) :
    ∃ u, (Instr.fieldAt t y f).run E.P w = .ok u w ∧ v.rel β u := by
  unfold xfieldAddr at hx
  split at hx
  · rename_i fs rs hl
    obtain ⟨⟨gs, hu, hfs⟩, _⟩ := lay_struct (laysOk_at hE hl)
    split at hx
    · rename_i c m bb hf
      obtain ⟨fd, h1, h2, h3, h4, _⟩ := fieldsAre_at hfs hf
      have h1' : gs[f]? = some fd := by rw [← Array.getElem?_toList]; exact h1
      split at hx
      · rename_i bs
        split at hx
        · obtain ⟨_, blk, base, rfl, hch⟩ := hy
          refine ⟨_, run_fieldAt hu h1' h3 h4 _, ?_⟩
          rw [add_mk, h2]
          exact locate_ok hx hch
        · cases hx
      · rename_i b o n
        split at hx
        · rename_i hle
          cases hx
          obtain ⟨L, B, X, hL, rfl, hin⟩ := hy
          exact ⟨_, run_fieldAt hu h1' h3 h4 _, L, B, X + c, hL, by rw [add_mk, h2], Loc.span_sub hin (by omega)⟩
        · cases hx
      · cases hx
    · cases hx
  · rename_i fs zs hl
    obtain ⟨⟨gs, hu, hfs⟩, _⟩ := lay_mix (laysOk_at hE hl)
    split at hx
    · rename_i c m bb hf
      obtain ⟨fd, h1, h2, h3, h4, _⟩ := fieldsAre_at hfs hf
      have h1' : gs[f]? = some fd := by rw [← Array.getElem?_toList]; exact h1
      split at hx
      · rename_i bs
        split at hx
        · obtain ⟨_, blk, base, rfl, hch⟩ := hy
          refine ⟨_, run_fieldAt hu h1' h3 h4 _, ?_⟩
          rw [add_mk, h2]
          exact locate_ok hx hch
        · cases hx
      · cases hx
    · cases hx
  · cases hx
def bt (s : ByteArray) (i : Nat) : Int := ((s.data.getD i 0).toNat : Int)
def cutRuns (c m : Nat) (agg : Bool) : List Run → Option AV
  | [] => none
  | r :: rs => if c + m ≤ r.size then (if agg = true then (if c = 0 ∧ m = r.size then some (.agg [r]) else some (.agg [⟨r.kind, m, fun j => r.get (c + j)⟩])) else if m = 1 then some (.int r.kind (r.get c)) else none)
    else if r.size ≤ c then cutRuns (c - r.size) m agg rs else none
def xfield (E : Env) (t : TypeId) (x : AV) (f : Nat) : Option AV :=
  match E.lay t with
  | some (.struct fs _) => (match fs[f]? with
    | some (c, m, b) => (match x with
      | .agg rs => cutRuns c m b rs
      | _ => none)
    | none => none)
  | _ => none
def xindex (E : Env) (t : TypeId) (x ix : AV) (k : AV → Option ρ) : Option ρ :=
  match ix with
  | .int _ i => (match E.lay t with
    | some (.arr len e esz _) => (match x with
      | .agg [r] => if r.size = len * esz then (match E.lay e with
          | some (.int _) => if esz = 1 then (if 0 ≤ i ∧ i < (len : Int) then k (.int r.kind (r.get i.toNat)) else none) else none
          | some (.arr ..) => (if 0 ≤ i ∧ i < (len : Int) then k (.agg [⟨r.kind, esz, fun j => r.get (i.toNat * esz + j)⟩]) else none)
          | _ => none) else none
      | _ => none)
    | some .str => (match x with
      | .str s => if 0 ≤ i ∧ i < (s.size : Int) then k (.int .u8 (bt s i.toNat)) else none
      | _ => none)
    | _ => none)
  | _ => none
theorem extract_cells {xs : List Value} {c m : Nat} : xs.toArray.extract c (c + m) = ((xs.drop c).take m).toArray := by
  simp
theorem run_part_agg {P : Program} {w : World} {t : TypeId} {n : Nat} {xs : List Value} {c : Nat} (ha : aggT P t = true) (hd : ∃ d, P.underlying t = some d) (hs : (P.info? t).map (·.size) = some n) :
    (part t xs.toArray c).run P w = .ok (.agg ((xs.drop c).take n).toArray) w := by
  obtain ⟨d, hu⟩ := hd
  have hagg : (isAgg t).run P w = .ok true w := by
    unfold isAgg
    rw [Sem.run_bind, run_underlying hu w]
    unfold aggT at ha; rw [hu] at ha
    cases d <;> simp_all
  cases hi : P.info? t with
  | none => simp [hi] at hs
  | some i =>
    have hs' : i.size = n := by simpa [hi] using hs
    simp [part, hagg, sizeOf, typeInfo, hi, hs']
theorem run_part_one {P : Program} {w : World} {t : TypeId} {xs : List Value} {c : Nat} {v : Value} (ha : aggT P t = false) (hd : ∃ d, P.underlying t = some d) (hv : xs[c]? = some v) :
    (part t xs.toArray c).run P w = .ok v w := by
  obtain ⟨d, hu⟩ := hd
  have hagg : (isAgg t).run P w = .ok false w := by
    unfold isAgg
    rw [Sem.run_bind, run_underlying hu w]
    unfold aggT at ha; rw [hu] at ha
    cases d <;> simp_all
  simp [part, hagg, hv]
theorem drop_take_run (r : Run) (rest : List Value) {c m : Nat} (h : c + m ≤ r.size) : ((r.cells ++ rest).drop c).take m = Run.cells ⟨r.kind, m, fun j => r.get (c + j)⟩ := by
  apply List.ext_getElem?
  intro i
  by_cases hi : i < m
  · rw [List.getElem?_take_of_lt hi, List.getElem?_drop, List.getElem?_append_left (by rw [Run.cells_length]; omega), Run.cells_get _ (by omega), Run.cells_get _ hi]
  · rw [List.getElem?_eq_none (by simp; omega), List.getElem?_eq_none (by rw [Run.cells_length]; simpa using hi)]
theorem run_self (r : Run) : Run.cells ⟨r.kind, r.size, fun j => r.get (0 + j)⟩ = r.cells := by
  simp [Run.cells]
theorem cutRuns_ok {P : Program} {w : World} {t : TypeId} {m : Nat} {b : Bool} (ha : aggT P t = b) (hd : ∃ d, P.underlying t = some d) (hs : (P.info? t).map (·.size) = some m) (β : Names) :
    ∀ {rs : List Run} {c : Nat} {v : AV}, cutRuns c m b rs = some v → ∀ pre : List Value, ∃ u, (part t (pre ++ cellsOf rs).toArray (pre.length + c)).run P w = .ok u w ∧ v.rel β u
  | [], _, _, h => by simp [cutRuns] at h
  | r :: rs, c, v, h => by
    intro pre
    have hcells : cellsOf (r :: rs) = r.cells ++ cellsOf rs := by simp [cellsOf]
    simp only [cutRuns] at h
    split at h
    · rename_i hle
      split at h
      · rename_i hb
        have hp := run_part_agg (P := P) (w := w) (t := t) (n := m) (xs := pre ++ cellsOf (r :: rs)) (c := pre.length + c) (by rw [ha, hb]) hd hs
        rw [hcells, show (pre ++ (r.cells ++ cellsOf rs)).drop (pre.length + c) = (r.cells ++ cellsOf rs).drop c by simp [List.drop_append], drop_take_run r _ hle] at hp
        refine ⟨_, by rw [hcells]; exact hp, ?_⟩
        split at h
        · rename_i he
          obtain ⟨rfl, rfl⟩ := he
          cases h
          simp only [AV.rel, AV.rel1, run_self]
          simp [cellsOf]
        · cases h
          simp [AV.rel, AV.rel1, agg_one]
      · rename_i hb
        split at h
        · rename_i hm
          subst hm
          cases h
          refine ⟨_, run_part_one (by rw [ha]; simpa using hb) hd (v := .int r.kind (r.get c)) ?_, rfl⟩
          rw [hcells, List.getElem?_append_right (by omega), List.getElem?_append_left (by rw [Run.cells_length]; omega)]
          rw [show pre.length + c - pre.length = c by omega]
          exact Run.cells_get _ (by omega)
        · cases h
    · split at h
      · rename_i hnc
        have ih := cutRuns_ok (w := w) ha hd hs β h (pre ++ r.cells)
        rw [List.length_append, Run.cells_length, show pre.length + r.size + (c - r.size) = pre.length + c by omega, List.append_assoc, ← hcells] at ih
        exact ih
      · cases h
theorem aggT_under {P : Program} {t : TypeId} (h : aggT P t = true) : ∃ d, P.underlying t = some d := by
  unfold aggT at h
  split at h
  · exact ⟨_, by assumption⟩
  · exact ⟨_, by assumption⟩
  · cases h
theorem xfield_ok {E : Env} (hE : laysOk E.P E.lays = true) {t : TypeId} {x v : AV} {f : Nat} (hx : xfield E t x f = some v) (β : Names) (w : World) (y : Value) (hy : x.rel β y) :
    ∃ u, (Instr.field t y f).run E.P w = .ok u w ∧ v.rel β u := by
  unfold xfield at hx
  split at hx
  · rename_i fs rs0 hl
    obtain ⟨⟨gs, hu, hfs⟩, _⟩ := lay_struct (laysOk_at hE hl)
    split at hx
    · rename_i c m bb hf
      obtain ⟨fd, h1, h2, h3, h4, h5, hund⟩ := fieldsAre_at hfs hf
      have h1' : gs[f]? = some fd := by rw [← Array.getElem?_toList]; exact h1
      split at hx
      · rename_i rs
        cases hy
        obtain ⟨u, h6, h7⟩ := cutRuns_ok (P := E.P) (w := w) h5 hund h3 β hx []
        refine ⟨u, ?_, h7⟩
        have e1 := run_underlying hu w
        simp only [List.nil_append, List.length_nil, Nat.zero_add] at h6
        simp [Instr.field, e1, h1', asAgg, h2, h6]
      · cases hx
    · cases hx
  · cases hx
theorem xindex_ok {E : Env} (hE : laysOk E.P E.lays = true) {t : TypeId} {x ix : AV} {k : AV → Option ρ} {r : ρ} (hx : xindex E t x ix k = some r) :
    ∃ v, k v = some r ∧ ∀ (β : Names) (w : World) (y z : Value), x.rel β y → ix.rel β z → ∃ u, (Instr.index t y z).run E.P w = .ok u w ∧ v.rel β u := by
  unfold xindex at hx
  split at hx
  · rename_i kk i
    split at hx
    · rename_i len e esz kd hl
      obtain ⟨hu, _, ⟨ie, hie, hs⟩, _⟩ := lay_arr (laysOk_at hE hl)
      split at hx
      · rename_i q
        split at hx
        · rename_i hn
          split at hx
          · rename_i ke hle
            split at hx
            · rename_i h1
              split at hx
              · rename_i hi
                refine ⟨_, hx, fun β w y z hy hz => ?_⟩
                cases hy; cases hz
                obtain ⟨hd, ha, _⟩ := lay_one (laysOk_at hE hle) rfl
                have e1 := run_underlying hu w
                have e2 := run_sizeOf' (w := w) hie
                have e3 := run_part_one (P := E.P) (w := w) (t := e) (xs := cellsOf [q]) (c := i.toNat) (v := .int q.kind (q.get i.toNat)) ha hd (by
                  have : cellsOf [q] = q.cells := by simp [cellsOf]
                  rw [this]; exact Run.cells_get _ (by rw [hn, h1]; omega))
                rw [hs, h1] at e2
                refine ⟨.int q.kind (q.get i.toNat), ?_, rfl⟩
                simp only [Instr.index, asIntOf, Sem.run_bind, Sem.run_pure, Result.andThen_ok, e1]
                rw [if_pos ⟨hi.1, hi.2⟩]
                simp [e2, e3]
              · cases hx
            · cases hx
          · rename_i len' e' esz' kd' hle
            split at hx
            · rename_i hi
              refine ⟨_, hx, fun β w y z hy hz => ?_⟩
              cases hy; cases hz
              obtain ⟨hu', ⟨ie', hie', hs', _⟩, _⟩ := lay_arr (laysOk_at hE hle)
              have ha : aggT E.P e = true := by simp [aggT, hu']
              have e1 := run_underlying hu w
              have e2 := run_sizeOf' (w := w) hie
              rw [hs] at e2
              have hm := mul_fit (n := esz) hi.1 hi.2
              have e3 := run_part_agg (P := E.P) (w := w) (t := e) (n := esz) (xs := cellsOf [q]) (c := i.toNat * esz) ha ⟨_, hu'⟩ (by rw [hie]; simp [hs])
              have hc : cellsOf [q] = q.cells ++ [] := by simp [cellsOf]
              rw [hc, drop_take_run q [] (by omega), ← hc] at e3
              refine ⟨.agg (Run.cells ⟨q.kind, esz, fun j => q.get (i.toNat * esz + j)⟩).toArray, ?_, by simp [AV.rel, AV.rel1, agg_one]⟩
              simp only [Instr.index, asIntOf, Sem.run_bind, Sem.run_pure, Result.andThen_ok, e1]
              rw [if_pos ⟨hi.1, hi.2⟩]
              simp [e2, e3]
            · cases hx
          · cases hx
        · cases hx
      · cases hx
    · rename_i hl
      split at hx
      · rename_i s
        split at hx
        · rename_i hi
          refine ⟨_, hx, fun β w y z hy hz => ?_⟩
          cases hy; cases hz
          obtain ⟨hu, _⟩ := lay_str (laysOk_at hE hl)
          have e1 := run_underlying hu w
          refine ⟨_, ?_, rfl⟩
          have hlt : i.toNat < s.size := by omega
          simp only [Instr.index, asIntOf, Sem.run_bind, Sem.run_pure, Result.andThen_ok, e1]
          rw [if_pos hi.1, getElem?_pos s i.toNat hlt]
          have hd : i.toNat < s.data.size := hlt
          simp only [bt, Array.getD]
          rw [dif_pos hd]
          rfl
        · cases hx
      · cases hx
    · cases hx
  · cases hx
end
end Go.Proofs.YtoeailachidcdaaGreatDoor.Hg
