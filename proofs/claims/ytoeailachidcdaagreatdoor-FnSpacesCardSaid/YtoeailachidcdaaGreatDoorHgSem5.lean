import Derived.Test.YtoeailachidcdaaGreatDoorHgSem4
namespace Go.Proofs.YtoeailachidcdaaGreatDoor.Hg
set_option linter.unusedVariables false
set_option linter.unusedSimpArgs false
set_option linter.unusedSectionVars false
open Go Go.RowKit
variable [Gl : Glob]
section
variable {ρ : Type}
def runBlks (rs : List Run) : List Blk := rs.map fun r => ⟨true, .flat r.size (.ints r.kind r.get)⟩
def mixBlks : List AV → Option (List Blk)
  | [] => some []
  | .int k n :: r => (match mixBlks r with | some x => some (⟨true, .flat 1 (.ints k fun _ => n)⟩ :: x) | none => none)
  | .agg rs :: r => (match mixBlks r with | some x => some (runBlks rs ++ x) | none => none)
  | .any :: _ => none
  | v :: r => (match mixBlks r with | some x => some (⟨true, .avs [v]⟩ :: x) | none => none)
def boxBlks : AV → Option (List Blk)
  | .int k n => some [⟨true, .flat 1 (.ints k fun _ => n)⟩]
  | .agg rs => some (runBlks rs)
  | .any | .tup _ => none
  | .mixv vs => (match mixBlks vs with | some (x :: r) => some (x :: r) | _ => none)
  | v => some [⟨true, .avs [v]⟩]
def zeroBlks (E : Env) (t : TypeId) : Option (List Blk) :=
  match E.lay t with
  | some (.int k) => some [⟨true, .flat 1 (.ints k fun _ => 0)⟩]
  | some (.arr len _ esz k) => some (runBlks (zruns0 [(k, len * esz)]))
  | some (.struct _ rs) => some (runBlks (zruns0 rs))
  | some .bool => some [⟨true, .avs [.bool false]⟩]
  | some (.slice ..) => some [⟨true, .avs [.nils]⟩]
  | some .str => some [⟨true, .avs [.str ByteArray.empty]⟩]
  | some (.mix _ zs) => mixBlks (zs.map ZF.av)
  | some (.barr len _) => some [⟨true, .flat len (.bools fun _ => false)⟩]
  | some .func | some .ptr => some [⟨true, .avs [.any]⟩]
  | _ => none
theorem blksRel_append {β : Names} : ∀ {xs ys : List Blk} {cs ds : List Value}, blksRel β xs cs → blksRel β ys ds → blksRel β (xs ++ ys) (cs ++ ds)
  | [], _, _, _, h, k => by subst h; exact k
  | x :: xs, _, _, _, ⟨c1, c2, he, h1, h2⟩, k => ⟨c1, c2 ++ _, by rw [he, List.append_assoc], h1, blksRel_append h2 k⟩
theorem blksRel_runs (β : Names) : ∀ rs : List Run, blksRel β (runBlks rs) (cellsOf rs)
  | [] => rfl
  | r :: rs => ⟨r.cells, cellsOf rs, by simp [cellsOf], rfl, blksRel_runs β rs⟩
theorem blksRel_one {β : Names} {v : AV} {u : Value} (h : v.rel1 β u) : blksRel β [⟨true, .avs [v]⟩] [u] := ⟨[u], [], rfl, ⟨h, trivial⟩, rfl⟩
theorem blksRel_int (β : Names) (k : IntKind) (n : Int) : blksRel β [⟨true, .flat 1 (.ints k fun _ => n)⟩] [.int k n] := ⟨[.int k n], [], rfl, by simp [Blk.cellsRel, FK.cells, FK.at], rfl⟩
theorem cells_of_rel1 {β : Names} {v : AV} {u : Value} (h : v.rel1 β u) (h1 : ∀ rs, v ≠ .agg rs) (h2 : v ≠ .any) : u.cells = #[u] := by
  cases v <;> simp only [AV.rel1] at h
  case int => subst h; rfl
  case bool => subst h; rfl
  case str => subst h; rfl
  case agg rs => exact absurd rfl (h1 rs)
  case ptr => obtain ⟨_, _, _, _, rfl, _⟩ := h; rfl
  case sptr => obtain ⟨_, _, _, rfl, _⟩ := h; rfl
  case slice => obtain ⟨_, _, _, _, _, _, rfl, _⟩ := h; rfl
  case ifc => rcases h with ⟨_, rfl⟩ | ⟨_, t, p, rfl⟩ <;> rfl
  case nils => subst h; rfl
  case fn => obtain ⟨_, rfl, _⟩ := h; rfl
  case any => exact absurd rfl h2
theorem mixBlks_rel {β : Names} : ∀ {vs : List AV} {xs : List Value} {nb : List Blk}, mixBlks vs = some nb → all2 (AV.rel1 β) vs xs → blksRel β nb (xs.flatMap fun x => x.cells.toList)
  | [], [], nb, h, _ => by simp [mixBlks] at h; subst h; rfl
  | v :: vs, x :: xs, nb, h, ⟨h1, h2⟩ => by
    rw [List.flatMap_cons]
    cases v
    case int k n =>
      simp only [mixBlks] at h
      split at h
      · rename_i r hr
        cases h; cases h1
        exact blksRel_append (xs := [_]) (blksRel_int β k n) (mixBlks_rel hr h2)
      · cases h
    case agg rs =>
      simp only [mixBlks] at h
      split at h
      · rename_i r hr
        cases h; cases h1
        refine blksRel_append ?_ (mixBlks_rel hr h2)
        simpa [Value.cells] using blksRel_runs β rs
      · cases h
    case any => simp [mixBlks] at h
    all_goals
      simp only [mixBlks] at h
      split at h
      · rename_i r hr
        cases h
        refine blksRel_append (xs := [_]) ?_ (mixBlks_rel hr h2)
        rw [cells_of_rel1 h1 (by simp) (by simp)]
        exact blksRel_one h1
      · cases h
  | [], _ :: _, _, _, h => h.elim
  | _ :: _, [], _, _, h => h.elim
theorem boxBlks_rel {β : Names} {v : AV} {nb : List Blk} (h : boxBlks v = some nb) {y : Value} (hy : v.rel β y) : blksRel β nb y.cells.toList ∧ nb ≠ [] ∨ (∃ rs, v = .agg rs ∧ nb = [] ) := by
  cases v <;> simp only [boxBlks] at h <;> try contradiction
  case int k n => cases h; cases hy; exact .inl ⟨blksRel_int β k n, by simp⟩
  case agg rs =>
    cases h; cases hy
    by_cases h0 : runBlks rs = []
    · exact .inr ⟨rs, rfl, h0⟩
    · refine .inl ⟨?_, h0⟩
      simpa [Value.cells] using blksRel_runs β rs
  case mixv vs =>
    split at h
    · rename_i x r hm
      cases h
      obtain ⟨xs, rfl, h2⟩ := hy
      exact .inl ⟨by simpa [Value.cells] using mixBlks_rel hm h2, by simp⟩
    · cases h
  all_goals
    cases h
    simp only [AV.rel] at hy
    refine .inl ⟨?_, by simp⟩
    rw [cells_of_rel1 hy (by simp) (by simp)]
    exact blksRel_one hy
theorem newVar_ok {P : Program} {β : Names} {n : Nat} {w : World} {t : TypeId} {y : Value} {nb : List Blk} (hf : ∀ b, n ≤ b → β b = none) (hr : blksRel β nb y.cells.toList) (hne : nb ≠ []) :
    SemOk P β n w (do pure (.pointer (some (← newVar t y)))) (.sptr (names n nb)) nb := by
  obtain ⟨h1, h2, h3⟩ := alloc_ok (w := w) t hf hr
  refine ⟨.pointer (some ⟨w.heap.size, 0, none⟩), _, _, ?_, ⟨?_, _, _, rfl, h2⟩, h1, h3⟩
  · simp [newVar, newRow]
  · cases nb with
    | nil => exact absurd rfl hne
    | cons x r => simp [names]
theorem zeroBlks_ok {E : Env} (hE : laysOk E.P E.lays = true) {t : TypeId} {nb : List Blk} (h : zeroBlks E t = some nb) :
    ∃ z, (∀ w : World, (zeroValue t).run E.P w = .ok z w) ∧ ∀ β, blksRel β nb z.cells.toList := by
  have zv : ∀ {i : TypeInfo} {z : Value}, E.P.info? t = some i → i.zero = some z → ∀ w : World, (zeroValue t).run E.P w = .ok z w := by
    intro i z hi hz w
    simp [zeroValue, typeInfo, hi, hz]
  unfold zeroBlks at h
  split at h
  · rename_i k hl
    obtain ⟨_, i, hi, _, hz⟩ := lay_int (laysOk_at hE hl)
    cases h
    exact ⟨_, zv hi hz, fun β => blksRel_int β k 0⟩
  · rename_i len e esz k hl
    obtain ⟨_, ⟨i, hi, _, hz⟩, _⟩ := lay_arr (laysOk_at hE hl)
    cases h
    exact ⟨_, zv hi hz, fun β => by simpa [Value.cells] using blksRel_runs β _⟩
  · rename_i fs rs hl
    obtain ⟨_, i, hi, _, hz⟩ := lay_struct (laysOk_at hE hl)
    cases h
    exact ⟨_, zv hi hz, fun β => by simpa [Value.cells] using blksRel_runs β _⟩
  · rename_i hl
    obtain ⟨_, i, hi, _, hz⟩ := lay_bool (laysOk_at hE hl)
    cases h
    exact ⟨_, zv hi hz, fun β => blksRel_one rfl⟩
  · rename_i e n m hl
    obtain ⟨_, ⟨i, hi, _, hz⟩, _⟩ := lay_slice (laysOk_at hE hl)
    cases h
    exact ⟨_, zv hi hz, fun β => blksRel_one rfl⟩
  · rename_i hl
    obtain ⟨_, i, s, hi, _, hz, hs⟩ := lay_str (laysOk_at hE hl)
    cases h
    have : s = ByteArray.empty := by
      cases s with
      | mk d => exact congrArg ByteArray.mk (Array.eq_empty_of_size_eq_zero hs)
    subst this
    exact ⟨_, zv hi hz, fun β => blksRel_one rfl⟩
  · rename_i fs zs hl
    obtain ⟨_, ⟨i, cs, hi, _, hz, hzf⟩, _⟩ := lay_mix (laysOk_at hE hl)
    obtain ⟨xs, h1, h2⟩ := zfs_ok hzf
    exact ⟨_, zv hi hz, fun β => by
      have := mixBlks_rel h (h2 β)
      rw [← h1] at this
      exact this⟩
  · rename_i len e hl
    obtain ⟨_, ⟨i, hi, _, hz⟩, _⟩ := lay_barr (laysOk_at hE hl)
    cases h
    refine ⟨_, zv hi hz, fun β => ⟨List.replicate len (.bool false), [], by simp [Value.cells], ?_, rfl⟩⟩
    simp only [Blk.cellsRel]
    apply List.ext_getElem <;> simp [FK.cells, FK.at]
  · rename_i hl
    have hc := laysOk_at hE hl
    simp only [Lay.chk, Bool.and_eq_true] at hc
    obtain ⟨_, h2⟩ := hc
    cases h
    split at h2
    · rename_i i hi
      simp only [Bool.and_eq_true] at h2
      have h3 := h2.2
      split at h3
      · rename_i hz; exact ⟨_, zv hi hz, fun β => blksRel_one (v := .any) trivial⟩
      · cases h3
    · cases h2
  · rename_i hl
    have hc := laysOk_at hE hl
    simp only [Lay.chk, Bool.and_eq_true] at hc
    obtain ⟨_, h2⟩ := hc
    cases h
    split at h2
    · rename_i i hi
      simp only [Bool.and_eq_true] at h2
      have h3 := h2.2
      split at h3
      · rename_i hz; exact ⟨_, zv hi hz, fun β => blksRel_one (v := .any) trivial⟩
      · cases h3
    · cases h2
  · cases h
def fillRuns (v : AV) (c : Nat) : List Run → Option (List Run)
  | [] => none
  | r :: rs => if r.size ≤ c then (match fillRuns v (c - r.size) rs with | some x => some (r :: x) | none => none)
    else match v with
      | .int k n => if k = r.kind then some (⟨r.kind, r.size, upd r.get c n⟩ :: rs) else none
      | .agg [q] => if q.kind = r.kind ∧ c + q.size ≤ r.size then (if c = 0 ∧ q.size = r.size then some (⟨r.kind, r.size, q.get⟩ :: rs) else some (⟨r.kind, r.size, updN r.get c q.size q.get⟩ :: rs)) else none
      | _ => none
def partSize : AV → Option Nat
  | .int _ _ => some 1
  | .agg [q] => some q.size
  | _ => none
def fillAll (place : Nat → Option (Nat × Nat)) : List (Nat × AV) → List Run → Option (List Run)
  | [], rs => some rs
  | (i, v) :: r, rs => match place i, partSize v with
    | some (c, m), some m' => if m = m' then (match fillRuns v c rs with | some rs' => fillAll place r rs' | none => none) else none
    | _, _ => none
def splice (cs : List Value) (c : Nat) (xs : List Value) : List Value := cs.take c ++ xs ++ cs.drop (c + xs.length)
theorem foldl_set (xs : List Value) : ∀ (j : Nat) (cs : Array Value) (off : Nat), off + j + xs.length ≤ cs.size →
    ((xs.zipIdx j).foldl (fun cs (x : Value × Nat) => cs.setIfInBounds (off + x.2) x.1) cs).toList = splice cs.toList (off + j) xs := by
  induction xs with
  | nil => intro j cs off h; simp [splice]
  | cons x xs ih =>
    intro j cs off h
    simp only [List.zipIdx_cons, List.foldl_cons]
    rw [ih (j + 1) _ off (by simp at h ⊢; omega)]
    simp only [List.length_cons] at h
    have hl : off + j < cs.toList.length := by simp; omega
    simp only [splice, Array.toList_setIfInBounds, List.length_cons]
    rw [show off + (j + 1) = off + j + 1 by omega]
    apply List.ext_getElem?
    intro i
    simp only [List.getElem?_append, List.length_append, List.length_take, List.length_set, List.getElem?_drop, List.length_cons, List.getElem?_take, List.getElem?_set]
    grind
theorem splice_cells (k : IntKind) (n c m : Nat) (g q : Nat → Int) (h : c + m ≤ n) : splice (Run.cells ⟨k, n, g⟩) c (Run.cells ⟨k, m, q⟩) = Run.cells ⟨k, n, updN g c m q⟩ := by
  apply List.ext_getElem?
  intro i
  have e1 : (Run.cells ⟨k, m, q⟩).length = m := Run.cells_length _
  have e2 : (Run.cells ⟨k, n, g⟩).length = n := Run.cells_length _
  simp only [splice, List.getElem?_append, List.length_append, List.length_take, e1, e2, List.getElem?_drop, List.getElem?_take]
  by_cases hi : i < n
  · rw [Run.cells_get ⟨k, n, updN g c m q⟩ hi]
    by_cases h1 : i < c
    · rw [if_pos (by omega), if_pos (by omega), if_pos h1, Run.cells_get ⟨k, n, g⟩ hi]
      simp only [updN]; rw [if_neg (by omega)]
    · by_cases h2 : i < c + m
      · rw [if_pos (by omega), if_neg (by omega), show i - min c n = i - c by omega, Run.cells_get ⟨k, m, q⟩ (by show i - c < m; omega)]
        simp only [updN]; rw [if_pos ⟨by omega, h2⟩]
      · rw [if_neg (by omega), show c + m + (i - (min c n + m)) = i by omega, Run.cells_get ⟨k, n, g⟩ hi]
        simp only [updN]; rw [if_neg (by omega)]
  · rw [List.getElem?_eq_none (l := Run.cells ⟨k, n, updN g c m q⟩) (by rw [Run.cells_length]; simpa using hi)]
    rw [if_neg (by omega), List.getElem?_eq_none (by rw [e2]; omega)]
theorem upd_eq (g : Nat → Int) (c : Nat) (x : Int) : upd g c x = updN g c 1 (fun _ => x) := by
  funext i
  simp only [upd, updN]
  by_cases h : i = c
  · rw [if_pos h, if_pos ⟨by omega, by omega⟩]
  · rw [if_neg h, if_neg (by omega)]
theorem splice_append_right (a b : List Value) (c : Nat) (xs : List Value) (h : a.length ≤ c) : splice (a ++ b) c xs = a ++ splice b (c - a.length) xs := by
  simp only [splice, List.take_append, List.drop_append]
  rw [List.take_of_length_le h, List.drop_eq_nil_of_le (by omega : a.length ≤ c + xs.length)]
  simp only [List.append_assoc, List.nil_append]
  rw [show c + xs.length - a.length = c - a.length + xs.length by omega]
theorem splice_append_left (a b : List Value) (c : Nat) (xs : List Value) (h : c + xs.length ≤ a.length) : splice (a ++ b) c xs = splice a c xs ++ b := by
  simp only [splice, List.take_append, List.drop_append]
  rw [show c - a.length = 0 by omega, show c + xs.length - a.length = 0 by omega]
  simp
theorem fillRuns_ok {β : Names} {v : AV} {y : Value} (hy : v.rel β y) : ∀ {rs rs' : List Run} {c : Nat}, fillRuns v c rs = some rs' → c + y.cells.size ≤ (cellsOf rs).length ∧ cellsOf rs' = splice (cellsOf rs) c y.cells.toList
  | [], _, _, h => by simp [fillRuns] at h
  | r :: rs, rs', c, h => by
    have hc : cellsOf (r :: rs) = r.cells ++ cellsOf rs := by simp [cellsOf]
    simp only [fillRuns] at h
    split at h
    · rename_i hle
      split at h
      · rename_i x hx
        cases h
        obtain ⟨h1, h2⟩ := fillRuns_ok hy hx
        have hc' : cellsOf (r :: x) = r.cells ++ cellsOf x := by simp [cellsOf]
        rw [hc, hc', splice_append_right _ _ _ _ (by rw [Run.cells_length]; exact hle), Run.cells_length, h2]
        refine ⟨?_, rfl⟩
        rw [List.length_append, Run.cells_length]; omega
      · cases h
    · rename_i hlt
      split at h
      · rename_i k n
        split at h
        · rename_i hk
          cases h; cases hy
          have hcs : (Value.int k n).cells.toList = Run.cells ⟨r.kind, 1, fun _ => n⟩ := by subst hk; simp [Value.cells, Run.cells]
          have hsz : (Value.int k n).cells.size = 1 := rfl
          rw [hsz, hc]
          refine ⟨by rw [List.length_append, Run.cells_length]; omega, ?_⟩
          rw [hcs, splice_append_left _ _ _ _ (by rw [Run.cells_length, Run.cells_length]; show c + 1 ≤ r.size; omega), splice_cells _ _ _ _ _ _ (by omega), upd_eq]
          simp [cellsOf]
        · cases h
      · rename_i q
        split at h
        · rename_i hk
          have hcs : cellsOf [q] = Run.cells ⟨r.kind, q.size, q.get⟩ := by
            obtain ⟨qk, qs, qg⟩ := q
            simp only at hk
            rw [← hk.1]; simp [cellsOf]
          have hyq : y = .agg (cellsOf [q]).toArray := hy
          have hsz : y.cells.size = q.size := by rw [hyq]; simp [Value.cells, hcs, Run.cells_length]
          have hyl : y.cells.toList = Run.cells ⟨r.kind, q.size, q.get⟩ := by rw [hyq]; simp [Value.cells, hcs]
          rw [hsz, hc, hyl, splice_append_left _ _ _ _ (by rw [Run.cells_length, Run.cells_length]; exact hk.2), splice_cells _ _ _ _ _ _ hk.2]
          refine ⟨by rw [List.length_append, Run.cells_length]; omega, ?_⟩
          split at h
          · rename_i he
            cases h
            obtain ⟨rfl, he⟩ := he
            have : Run.cells ⟨r.kind, r.size, updN r.get 0 q.size q.get⟩ = Run.cells ⟨r.kind, r.size, q.get⟩ := by
              simp only [Run.cells]
              apply List.map_congr_left
              intro i hi
              have : i < r.size := by simpa using hi
              simp only [updN]
              rw [if_pos ⟨by omega, by omega⟩]; simp
            rw [this]; simp [cellsOf]
          · cases h
            simp [cellsOf]
        · cases h
      · cases h
theorem partSize_ok {β : Names} {v : AV} {m : Nat} (h : partSize v = some m) {y : Value} (hy : v.rel β y) : y.cells.size = m := by
  unfold partSize at h
  split at h
  · cases h; cases hy; rfl
  · cases h; cases hy
    simp [Value.cells, cellsOf, Run.cells_length]
  · cases h
theorem fillAll_ok {β : Names} {place : Nat → Option (Nat × Nat)} : ∀ {parts : List (Nat × AV)} {ys : List (Nat × Value)} {rs rs' : List Run}, fillAll place parts rs = some rs' →
    all2 (fun (p : Nat × AV) (q : Nat × Value) => p.1 = q.1 ∧ p.2.rel β q.2) parts ys → Instr.fill place (cellsOf rs).toArray ys = some (cellsOf rs').toArray
  | [], [], rs, rs', h, _ => by simp [fillAll] at h; simp [Instr.fill, h]
  | (i, v) :: r, (j, y) :: ys, rs, rs', h, ⟨⟨h1, h2⟩, h3⟩ => by
    simp only at h1 h2
    subst h1
    simp only [fillAll] at h
    split at h
    · rename_i c m m' hp hm
      split at h
      · rename_i hmm
        split at h
        · rename_i rs1 hf
          obtain ⟨h4, h5⟩ := fillRuns_ok h2 hf
          have hsz := partSize_ok hm h2
          have ih := fillAll_ok h h3
          simp only [Instr.fill, hp]
          have hcond : ¬ (y.cells.size ≠ m || decide (c + y.cells.size > (cellsOf rs).toArray.size)) = true := by
            simp [hsz, hmm]; rw [hsz] at h4; simpa using h4
          rw [if_neg (by simpa using hcond)]
          have hset := foldl_set y.cells.toList 0 (cellsOf rs).toArray c (by simpa using h4)
          rw [Nat.add_zero, ← h5] at hset
          have : (y.cells.zipIdx.foldl (fun cs (x : Value × Nat) => cs.setIfInBounds (c + x.2) x.1) (cellsOf rs).toArray) = (cellsOf rs1).toArray := by
            apply Array.toList_inj.1
            rw [← Array.foldl_toList, Array.toList_zipIdx]
            exact hset
          rw [← ih]
          congr 1
        · cases h
      · cases h
    · cases h
  | [], _ :: _, _, _, _, h => h.elim
  | _ :: _, [], _, _, _, h => h.elim
theorem fillRuns_length {v : AV} : ∀ {rs rs' : List Run} {c : Nat}, fillRuns v c rs = some rs' → (cellsOf rs').length = (cellsOf rs).length
  | [], _, _, h => by simp [fillRuns] at h
  | r :: rs, rs', c, h => by
    simp only [fillRuns] at h
    split at h
    · split at h
      · rename_i x hx
        cases h
        have := fillRuns_length hx
        simpa [cellsOf] using this
      · cases h
    · split at h
      · split at h
        · cases h; simp [cellsOf, Run.cells_length]
        · cases h
      · split at h
        · split at h <;> (cases h; simp [cellsOf, Run.cells_length])
        · cases h
      · cases h
theorem fillAll_length {place : Nat → Option (Nat × Nat)} : ∀ {parts : List (Nat × AV)} {rs rs' : List Run}, fillAll place parts rs = some rs' → (cellsOf rs').length = (cellsOf rs).length
  | [], rs, rs', h => by simp [fillAll] at h; rw [h]
  | (i, v) :: r, rs, rs', h => by
    simp only [fillAll] at h
    split at h
    · split at h
      · split at h
        · rename_i hf
          rw [fillAll_length h, fillRuns_length hf]
        · cases h
      · cases h
    · cases h
end
end Go.Proofs.YtoeailachidcdaaGreatDoor.Hg
