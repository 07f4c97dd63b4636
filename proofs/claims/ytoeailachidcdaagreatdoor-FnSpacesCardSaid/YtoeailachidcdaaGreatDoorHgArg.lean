import Derived.Test.YtoeailachidcdaaGreatDoorHgRow
namespace Go.Proofs.YtoeailachidcdaaGreatDoor.Hg
set_option linter.unusedVariables false
set_option linter.unusedSimpArgs false
set_option linter.unusedSectionVars false
open Go Go.RowKit Go.ChangeShapes Go.WideShapes
variable [Gl : Glob]
section
variable {H : Type} {enc : TypeId × Value → H} {P : Program} {w : World} {sp : Nat → Bool} {held : Bool} {base : Nat} {q : Reach}
theorem trodAll_at : ∀ {ts : List TypeId} {vs : List Value} {ds : List (DataW H)} {ps : List MemPlace} {i : Nat} {t : TypeId} {v : Value}, DataW.TrodAll enc P w 0 sp held ts vs ds ps → ts[i]? = some t → vs[i]? = some v → ∃ d p, DataW.Trod enc P w 0 sp held t v d p
  | [], vs, ds, ps, i, t, v, _, h, _ => by simp at h
  | t0 :: ts, vs, ds, ps, i, t, v, h, hi, hv => by
    obtain ⟨v0, vs', d, ds', p, q, rfl, rfl, rfl, h1, h2⟩ := trodAll_cons h
    cases i with
    | zero =>
      simp only [List.getElem?_cons_zero, Option.some.injEq] at hi hv
      subst hi; subst hv
      exact ⟨_, _, h1⟩
    | succ i =>
      simp only [List.getElem?_cons_succ] at hi hv
      exact trodAll_at h2 hi hv
def elemB (P : Program) (e : TypeId) (k : IntKind) (n : Nat) : Bool := match P.underlying e with
  | some (.int k') => k' == k && n == 1 && P.cellsOf e == 1
  | some (.array len e2) => len == n && P.cellsOf e == n && P.cellsOf e2 == 1 && (match P.underlying e2 with | some (.int k') => k' == k | _ => false)
  | _ => false
theorem wf_has {k : IntKind} {n : Int} (h : (Lit.int k n).wf = true) : k.has n := by
  simp only [Lit.wf, Bool.and_eq_true, decide_eq_true_eq] at h
  exact h
theorem trod_elem {e : TypeId} {k : IntKind} {n fuel : Nat} {cs : List Value} {r : DataW H × List MemPlace} (he : elemB P e k n = true) (h : DataW.trod enc P w 0 sp held fuel e cs = some r) :
    P.cellsOf e = n ∧ cs.length = n ∧ ∀ (i : Nat) v, cs[i]? = some v → ∃ z, v = .int k z ∧ k.has z := by
  unfold elemB at he
  split at he
  · rename_i k' hu
    simp only [Bool.and_eq_true, beq_iff_eq] at he
    obtain ⟨⟨rfl, rfl⟩, hc⟩ := he
    obtain ⟨z, rfl, _, hw⟩ := DataW.trod_int hu h
    refine ⟨hc, rfl, fun i v hv => ?_⟩
    have : i = 0 := by
      have := (List.getElem?_eq_some_iff.1 hv).1
      simpa using this
    subst this
    simp only [List.getElem?_cons_zero, Option.some.injEq] at hv
    exact ⟨z, hv.symm, wf_has hw⟩
  · rename_i len e2 hu
    simp only [Bool.and_eq_true, beq_iff_eq] at he
    obtain ⟨⟨⟨rfl, hc⟩, hc2⟩, h2⟩ := he
    split at h2
    · rename_i k' hu2
      simp only [beq_iff_eq] at h2
      subst h2
      obtain ⟨xs, m, _, _, hl, hxl, hx⟩ := DataW.trod_array hu h
      have hlen : cs.length = len := by rw [hl, hc]
      refine ⟨hc, hlen, fun i v hv => ?_⟩
      have hi : i < len := by have := (List.getElem?_eq_some_iff.1 hv).1; omega
      have h3 := hx i hi
      rw [hc2] at h3
      have hxi : xs[i]? = some xs[i] := List.getElem?_eq_getElem (by omega)
      rw [hxi] at h3
      obtain ⟨z, hz, _, hw⟩ := DataW.trod_int hu2 h3
      have h5 : (List.take 1 (List.drop (i * 1) cs))[0]? = some (.int k' z) := by rw [hz]; rfl
      rw [List.getElem?_take_of_lt (by omega), List.getElem?_drop, Nat.mul_one, Nat.add_zero, hv] at h5
      cases h5
      exact ⟨z, rfl, wf_has hw⟩
    · cases h2
  · cases he
theorem arg_slice {t e : TypeId} {v : Value} {d : DataW H} {p : List MemPlace} (ht : P.underlying t = some (.slice e)) (hv : Value.okWide P w q base t v) (h : DataW.Trod enc P w 0 sp held t v d p) :
    ∃ (ao : Option Addr) (len c B X : Nat), v = .slice ao len c ∧ len ≤ c ∧ (c = 0 ∨ ao = some ⟨B, X, none⟩) ∧ c ≤ maxLen ∧
      ∀ i, i < len → ∃ cs fuel r, (∀ j, j < P.cellsOf e → w.cell? ⟨B, X + (i * P.cellsOf e + j), none⟩ = cs[j]?) ∧ cs.length = P.cellsOf e ∧ DataW.trod enc P w 0 sp held fuel e cs = some r := by
  obtain ⟨fuel, h⟩ := h
  rcases DataW.trod_slice ht h with ⟨h1, _⟩ | ⟨a, len, c, elems, rest, n, _, h1, _, _, hle, hm, hel, he, _⟩
  · have : v = .slice none 0 0 := by
      cases v <;> simp [Value.cells] at h1
      · simp [h1]
      · rename_i cs
        exfalso
        unfold Value.okWide at hv
        rw [ht] at hv
        simp [Cell.okWide, ht, Cell.ok] at hv
    subst this
    exact ⟨none, 0, 0, 0, 0, rfl, Nat.le_refl _, .inl rfl, Nat.zero_le _, fun i hi => by omega⟩
  · have hv' : v = .slice (some a) len c := by
      cases v <;> simp [Value.cells] at h1
      · simp [h1]
      · exfalso
        unfold Value.okWide at hv
        rw [ht] at hv
        simp [Cell.okWide, ht, Cell.ok] at hv
    subst hv'
    have hsp : a.spot = none := by
      unfold Value.okWide at hv
      rw [ht] at hv
      simp only [Cell.okWide, ht, Cell.ok] at hv
      exact hv.2.2.2.1
    obtain ⟨B, X, s⟩ := a
    simp only at hsp
    subst hsp
    refine ⟨_, len, c, B, X, rfl, hle, .inr rfl, hm, fun i hi => ?_⟩
    have h2 := he i hi
    have hei : elems[i]? = some elems[i] := List.getElem?_eq_getElem (by omega)
    rw [hei] at h2
    obtain ⟨cs, h3, h4⟩ := Option.bind_eq_some_iff.1 h2
    obtain ⟨_, h5, h6⟩ := World.cells?_some h3
    refine ⟨cs, n, _, fun j hj => ?_, h5, h4⟩
    have := h6 j hj
    rw [← this, add_mk, add_mk, Nat.add_assoc]
open Classical in
theorem arg_flat {t e : TypeId} {k : IntKind} {n : Nat} {v : Value} {d : DataW H} {p : List MemPlace} (ht : P.underlying t = some (.slice e)) (he : elemB P e k n = true) (hn : 0 < n) (hv : Value.okWide P w q base t v) (h : DataW.Trod enc P w 0 sp held t v d p) :
    ∃ (len : Nat) (g : Nat → Int) (L : Loc), len ≤ maxLen ∧ (∀ z, k.has (g z)) ∧ (∀ β m, Blk.rel β L ⟨false, .flat m (.ints k g)⟩ w) ∧ ∀ (β : Names) b, β b = some L → sliceRel β false b 0 len .unk n v := by
  obtain ⟨ao, len, c, B, X, rfl, hle, ha, hm, hc⟩ := arg_slice ht hv h
  have key : ∀ z, z < len * n → ∃ x, w.cell? ⟨B, X + z, none⟩ = some (.int k x) ∧ k.has x := by
    intro z hz
    have hi : z / n < len := by rw [Nat.div_lt_iff_lt_mul hn]; exact hz
    obtain ⟨cs, fuel, r, h1, h2, h3⟩ := hc _ hi
    obtain ⟨e1, e2, e3⟩ := trod_elem he h3
    rw [e1] at h1 h2
    have hj : z % n < n := Nat.mod_lt _ hn
    have hcs : cs[z % n]? = some cs[z % n] := List.getElem?_eq_getElem (by omega)
    obtain ⟨x, hx, hk⟩ := e3 _ _ hcs
    refine ⟨x, ?_, hk⟩
    have := h1 _ hj
    rw [hcs, hx, show z / n * n + z % n = z by rw [Nat.mul_comm]; exact Nat.div_add_mod z n] at this
    exact this
  refine ⟨len, fun z => if hz : ∃ x, w.cell? ⟨B, X + z, none⟩ = some (.int k x) ∧ k.has x then hz.choose else 0, Loc.lin B X (len * n), by omega, fun z => ?_, fun β m => ⟨fun _ B' X' ho => ⟨?_, by simp⟩, fun i B' X' hp => ?_⟩, fun β b hb => ⟨_, ao, c, B, X, hb, rfl, hle, by simp, ha, ?_⟩⟩
  · simp only
    split
    · rename_i hz; exact hz.choose_spec.2
    · exact has_zero k
  · obtain ⟨rfl, h1, h2⟩ := Loc.lin_own.1 ho
    obtain ⟨x, hx, _⟩ := key (X' - X) (by omega)
    rw [show X + (X' - X) = X' by omega] at hx
    rw [hx]; rfl
  · obtain ⟨h1, h2⟩ := Loc.lin_pl.1 hp
    simp only [Prod.mk.injEq] at h2
    obtain ⟨rfl, rfl⟩ := h2
    have hz := key i h1
    simp only [FK.at]
    rw [dif_pos hz]
    exact hz.choose_spec.1
  · have := Loc.lin_span (blk := B) (base := X) (o := 0) (k := len * n) (n := len * n) (by omega)
    simpa [capRel] using this
theorem spot_of {b : Nat} {a : Addr} {cs : List Value} (h : w.cells? b a 1 = some cs) : a.spot = none := by
  obtain ⟨_, h1, h2⟩ := World.cells?_some h
  have h3 := h2 0 (by omega)
  have hcs : cs[0]? = some cs[0] := List.getElem?_eq_getElem (by omega)
  rw [hcs] at h3
  simp only [Addr.add, if_true] at h3
  unfold World.cell? at h3
  split at h3
  · split at h3
    · cases h3
    · rename_i hn; cases hs : a.spot with
      | none => rfl
      | some x => simp [hs] at hn
  · cases h3
def RS : Nat := 18446744073709551616
theorem rs_split {i j : Nat} (h : j < RS) : (i * RS + j) / RS = i ∧ (i * RS + j) % RS = j := by
  unfold RS at *; omega
open Classical in
theorem arg_table {t e e2 : TypeId} {k : IntKind} {v : Value} {d : DataW H} {p : List MemPlace} (ht : P.underlying t = some (.slice e)) (hte : P.underlying e = some (.slice e2)) (hce : P.cellsOf e = 1) (he : elemB P e2 k 1 = true) (hv : Value.okWide P w q base t v) (h : DataW.Trod enc P w 0 sp held t v d p)
    (hsp : ∀ b, sp b = true) :
    ∃ (len : Nat) (of ln : Nat → Nat) (g : Nat → Int) (L M : Loc), len ≤ maxLen ∧ (∀ i, ln i ≤ maxLen) ∧ (∀ z, k.has (g z)) ∧ (∀ β m, Blk.rel β M ⟨false, .flat m (.ints k g)⟩ w) ∧
      (∀ (β : Names) b m, β b = some M → Blk.rel β L ⟨false, .hdr b m (len * RS) of ln none⟩ w) ∧ ∀ (β : Names) b, β b = some L → sliceRel β false b 0 len .unk 1 v := by
  obtain ⟨ao, len, c, B, X, rfl, hle, ha, hm, hc⟩ := arg_slice ht hv h
  have row : ∀ i, i < len → ∃ (ai : Option Addr) (n ci Bi Xi : Nat), w.cell? ⟨B, X + i, none⟩ = some (.slice ai n ci) ∧ n ≤ ci ∧ (ci = 0 ∨ ai = some ⟨Bi, Xi, none⟩) ∧ ci ≤ maxLen ∧
      ∀ j, j < n → ∃ x, w.cell? ⟨Bi, Xi + j, none⟩ = some (.int k x) ∧ k.has x := by
    intro i hi
    obtain ⟨cs, fuel, r, h1, h2, h3⟩ := hc i hi
    rw [hce] at h1 h2
    have h4 := h1 0 (by omega)
    rw [Nat.add_zero, Nat.mul_one] at h4
    rcases DataW.trod_slice hte h3 with ⟨h5, _⟩ | ⟨a, n, ci, elems, rest, m, _, h5, _, _, hle2, hm2, hel, hee, hsr, _⟩
    · subst h5
      exact ⟨none, 0, 0, 0, 0, h4, Nat.le_refl _, .inl rfl, Nat.zero_le _, fun j hj => by omega⟩
    · subst h5
      by_cases hci : ci = 0
      · subst hci
        exact ⟨_, n, 0, 0, 0, h4, hle2, .inl rfl, Nat.zero_le _, fun j hj => by omega⟩
      have hs : a.spot = none := by
        have hce2 : P.cellsOf e2 = 1 := by
          unfold elemB at he
          split at he
          · simp only [Bool.and_eq_true, beq_iff_eq] at he; exact he.2
          · simp only [Bool.and_eq_true, beq_iff_eq] at he; exact he.1.1.2
          · cases he
        by_cases hn0 : n = 0
        · subst hn0
          obtain ⟨hrl, hr⟩ := hsr (hsp _)
          have h6 := hr 0 (by omega)
          have hej : rest[0]? = some rest[0] := List.getElem?_eq_getElem (by omega)
          rw [hej] at h6
          obtain ⟨cs', h7, _⟩ := Option.bind_eq_some_iff.1 h6
          rw [hce2] at h7
          exact spot_of (by simpa [Addr.add] using h7)
        · have h6 := hee 0 (by omega)
          have hej : elems[0]? = some elems[0] := List.getElem?_eq_getElem (by omega)
          rw [hej] at h6
          obtain ⟨cs', h7, _⟩ := Option.bind_eq_some_iff.1 h6
          rw [hce2] at h7
          exact spot_of (by simpa [Addr.add] using h7)
      obtain ⟨Bi, Xi, s⟩ := a
      simp only at hs
      subst hs
      refine ⟨_, n, ci, Bi, Xi, h4, hle2, .inr rfl, hm2, fun j hj => ?_⟩
      have h6 := hee j hj
      have hej : elems[j]? = some elems[j] := List.getElem?_eq_getElem (by omega)
      rw [hej] at h6
      obtain ⟨cs', h7, h8⟩ := Option.bind_eq_some_iff.1 h6
      obtain ⟨e1, e2', e3⟩ := trod_elem he h8
      rw [e1] at h7
      obtain ⟨_, _, h9⟩ := World.cells?_some h7
      have h10 := h9 0 (by omega)
      have hcs : cs'[0]? = some cs'[0] := List.getElem?_eq_getElem (by omega)
      obtain ⟨x, hx, hk⟩ := e3 _ _ hcs
      refine ⟨x, ?_, hk⟩
      rw [hcs, hx, add_mk, add_mk, Nat.add_zero, Nat.mul_one] at h10
      exact h10
  have row' : ∀ i, ∃ (ai : Option Addr) (n ci Bi Xi : Nat), n ≤ ci ∧ (ci = 0 ∨ ai = some ⟨Bi, Xi, none⟩) ∧ ci ≤ maxLen ∧ (i < len → w.cell? ⟨B, X + i, none⟩ = some (.slice ai n ci)) ∧
      ∀ j, j < n → ∃ x, w.cell? ⟨Bi, Xi + j, none⟩ = some (.int k x) ∧ k.has x := by
    intro i
    by_cases hi : i < len
    · obtain ⟨ai, n, ci, Bi, Xi, h1, h2, h3, h4, h5⟩ := row i hi
      exact ⟨ai, n, ci, Bi, Xi, h2, h3, h4, fun _ => h1, h5⟩
    · exact ⟨none, 0, 0, 0, 0, Nat.le_refl _, .inl rfl, Nat.zero_le _, fun h => absurd h hi, fun j hj => by omega⟩
  let A := fun i => (row' i).choose
  let N := fun i => (row' i).choose_spec.choose
  let C := fun i => (row' i).choose_spec.choose_spec.choose
  let BB := fun i => (row' i).choose_spec.choose_spec.choose_spec.choose
  let XX := fun i => (row' i).choose_spec.choose_spec.choose_spec.choose_spec.choose
  have hrow : ∀ i, N i ≤ C i ∧ (C i = 0 ∨ A i = some ⟨BB i, XX i, none⟩) ∧ C i ≤ maxLen ∧ (i < len → w.cell? ⟨B, X + i, none⟩ = some (.slice (A i) (N i) (C i))) ∧
      ∀ j, j < N i → ∃ x, w.cell? ⟨BB i, XX i + j, none⟩ = some (.int k x) ∧ k.has x := fun i => (row' i).choose_spec.choose_spec.choose_spec.choose_spec.choose_spec
  clear_value A N C BB XX
  have hML : maxLen < RS := by unfold maxLen RS; omega
  have hN : ∀ i, N i < RS := fun i => by have := (hrow i).1; have := (hrow i).2.2.1; omega
  let g : Nat → Int := fun z => if hz : ∃ x, w.cell? ⟨BB (z / RS), XX (z / RS) + z % RS, none⟩ = some (.int k x) ∧ k.has x then hz.choose else 0
  have hg : ∀ z, k.has (g z) := by
    intro z
    simp only [g]
    split
    · rename_i hz; exact hz.choose_spec.2
    · exact has_zero k
  have hgat : ∀ z, z % RS < N (z / RS) → w.cell? ⟨BB (z / RS), XX (z / RS) + z % RS, none⟩ = some (.int k (g z)) := by
    intro z hz
    have hx := (hrow (z / RS)).2.2.2.2 _ hz
    simp only [g]
    rw [dif_pos hx]
    exact hx.choose_spec.1
  let M : Loc := ⟨fun z => if z / RS < len ∧ z % RS < N (z / RS) then some (BB (z / RS), XX (z / RS) + z % RS) else none, fun _ _ => False⟩
  have hM : ∀ {z p}, M.pl z = some p ↔ (z / RS < len ∧ z % RS < N (z / RS)) ∧ p = (BB (z / RS), XX (z / RS) + z % RS) := by
    intro z p
    simp only [M]
    split
    · rename_i hc; simp [hc, eq_comm]
    · rename_i hc; simp only [reduceCtorEq, false_iff, not_and]; exact fun h => absurd h hc
  refine ⟨len, fun i => i * RS, N, g, Loc.lin B X (len * 1), M, by omega, fun i => by have := (hrow i).1; have := (hrow i).2.2.1; omega, hg, fun β m => ⟨fun _ B' X' ho => ⟨?_, by simp⟩, fun i B' X' hp => ?_⟩, fun β b m hb => ⟨fun _ B' X' ho => ⟨?_, by simp⟩, ⟨M, hb, fun i hi => ?_⟩, fun i B' X' hp => ?_⟩, fun β b hb => ⟨_, ao, c, B, X, hb, rfl, hle, by simp, ha, ?_⟩⟩
  · rcases ho with ⟨i, hi⟩ | ho
    · obtain ⟨⟨h1, h2⟩, h3⟩ := hM.1 hi
      cases h3
      rw [hgat _ h2]; rfl
    · exact ho.elim
  · obtain ⟨⟨h1, h2⟩, h3⟩ := hM.1 hp
    cases h3
    exact hgat _ h2
  · obtain ⟨rfl, h1, h2⟩ := Loc.lin_own.1 ho
    have := (hrow (X' - X)).2.2.2.1 (by omega)
    rw [show X + (X' - X) = X' by omega] at this
    rw [this]; rfl
  · cases hp : M.pl i with
    | none => rfl
    | some p =>
      obtain ⟨⟨h1, _⟩, _⟩ := hM.1 hp
      have : i / RS < len := h1
      rw [Nat.div_lt_iff_lt_mul (by unfold RS; omega)] at this
      omega
  · obtain ⟨h1, h2⟩ := Loc.lin_pl.1 hp
    simp only [Prod.mk.injEq] at h2
    obtain ⟨rfl, rfl⟩ := h2
    obtain ⟨r1, r2, r3, r4, r5⟩ := hrow i
    refine ⟨_, r4 (by omega), ?_⟩
    refine ⟨M, A i, C i, BB i, XX i, hb, rfl, r1, by simp, r2, ?_⟩
    simp only [hdrCap, capRel]
    intro j hj
    rw [Nat.mul_one] at hj
    have hlt : j < RS := by have := hN i; omega
    obtain ⟨s1, s2⟩ := rs_split (i := i) hlt
    exact hM.2 ⟨⟨by rw [s1]; omega, by rw [s1, s2]; exact hj⟩, by rw [s1, s2]⟩
  · have := Loc.lin_span (blk := B) (base := X) (o := 0) (k := len * 1) (n := len * 1) (by omega)
    simpa [capRel] using this
end
theorem hrel_ro {sh : Heap} {Ls : List Loc} {W : World} (hl : Ls.length = sh.length) (hro : sh.all (fun x => !x.rw) = true) (h : ∀ (b : Nat) (x : Blk), sh[b]? = some x → ∃ L, Ls[b]? = some L ∧ x.rel (fun i => Ls[i]?) L W) (hg : Gl.ok W) : HRel (fun i => Ls[i]?) sh W := by
  have hr : ∀ (b : Nat) (x : Blk), sh[b]? = some x → x.rw = false := fun b x hx => by
    have := List.all_eq_true.1 hro x (List.mem_of_getElem? hx)
    simpa using this
  refine ⟨fun b x hx _ => h b x hx, fun b b' x x' L L' B X _ hx _ _ _ hrw => ?_, fun b x L hx _ hrw => ?_, fun b hb => ?_, hg, fun b x L B X hx hrw => ?_⟩
  · rw [hr b x hx] at hrw; cases hrw
  · rw [hr b x hx] at hrw; cases hrw
  · simp only [List.getElem?_eq_none_iff]; omega
  · rw [hr b x hx] at hrw; cases hrw
theorem FnOk.below' {P : Program} {f : FuncId} {args : List AV} {sh : Heap} {v : AV} {sh' : Heap} (h : FnOk P f args sh v sh') {W : World} {ys : List Value} {β : Names} (hro : sh.all (fun x => !x.rw) = true) (h0 : HRel β sh W) (ha : all2 (AV.rel β) args ys) :
    Calls P f ys.toArray W fun e w' => ∃ γ y, e = .returned y ∧ v.rel γ y ∧ Below W.heap.size W w' := by
  refine (h.run β W ys h0 ha).mono ?_
  rintro e w' ⟨γ, y, he, _, hv, _, hx, _⟩
  refine ⟨γ, y, he, hv, hx.os, hx.tape, hx.output, hx.size, fun k hk => hx.obj k hk ?_⟩
  rintro a _ ⟨b, x, L, hb, hrw, _⟩
  have := List.all_eq_true.1 hro x (List.mem_of_getElem? hb)
  simp [hrw] at this
theorem okWide_nil {P : Program} {w : World} {q : Reach} {b : Nat} {t e : TypeId} (ht : P.underlying t = some (.slice e)) : Value.okWide P w q b t (.slice none 0 0) := by
  unfold Value.okWide
  rw [ht]
  simp [Cell.okWide, ht, Cell.ok]
theorem okWide_str {P : Program} {w : World} {q : Reach} {b : Nat} {t : TypeId} (ht : P.underlying t = some .string) : Value.okWide P w q b t (.string ByteArray.empty) := by
  unfold Value.okWide
  rw [ht]
  simp [Cell.okWide, ht, Cell.ok]
theorem ok_str {P : Program} {w : World} {r : Reach} {b : Nat} {t : TypeId} {v : Value} (ht : P.underlying t = some .string) (h : Value.okWide P w r b t v) : ∃ s : ByteArray, v = .string s ∧ (s.size : Int) ≤ 9223372036854775807 := by
  unfold Value.okWide at h
  rw [ht] at h
  simp only [Cell.okWide, ht] at h
  cases v <;> simp [Cell.ok, ht] at h
  exact ⟨_, rfl, h⟩
end Go.Proofs.YtoeailachidcdaaGreatDoor.Hg
