import Derived.Test.YtoeailachidcdaaGreatDoorHgSem5
namespace Go.Proofs.YtoeailachidcdaaGreatDoor.Hg
set_option linter.unusedVariables false
set_option linter.unusedSimpArgs false
set_option linter.unusedSectionVars false
open Go Go.RowKit
variable [Gl : Glob]
section
variable {ρ : Type}
def evParts (s : St) (ps : List (Nat × Operand)) : List (Nat × AV) := ps.map fun p => (p.1, s.ev p.2)
theorem evParts_rel {β : Names} {s : St} {a : Act} {w : World} (r : Rel β s a w) (ps : Array (Nat × Operand)) :
    all2 (fun (p : Nat × AV) (q : Nat × Value) => p.1 = q.1 ∧ p.2.rel β q.2) (evParts s ps.toList) (ps.map fun (i, x) => (i, a.eval x)).toList := by
  rw [Array.toList_map]
  unfold evParts
  generalize ps.toList = l
  induction l with
  | nil => trivial
  | cons p l ih => exact ⟨⟨rfl, r.ev p.2⟩, ih⟩
def okPart : AV → Bool
  | .tup _ | .mixv _ | .any => false
  | _ => true
def avN : AV → Nat
  | .agg rs => (rs.map (·.size)).sum
  | _ => 1
def mixSet : List (Nat × AV) → List AV → Option (List AV)
  | [], vs => some vs
  | (i, v) :: r, vs => match vs[i]? with
    | some u => if okPart v = true ∧ okPart u = true ∧ avN v = avN u then mixSet r (vs.set i v) else none
    | none => none
def xbuild (E : Env) (t : TypeId) (ps : List (Nat × AV)) : Option AV :=
  match E.lay t with
  | some (.arr len _ esz k) => (match fillAll (fun i => some (i * esz, esz)) ps (zruns0 [(k, len * esz)]) with | some rs => some (.agg rs) | none => none)
  | some (.struct fs rs0) => (match fillAll (fun i => (fs[i]?).map fun f => (f.1, f.2.1)) ps (zruns0 rs0) with | some rs => some (.agg rs) | none => none)
  | some (.mix _ zs) => (match mixSet ps (zs.map ZF.av) with | some vs => some (.mixv vs) | none => none)
  | some (.barr len _) => (match ps with | [] => some (.mixv (List.replicate len (.bool false))) | _ => none)
  | _ => none
theorem cellsOf_length : ∀ rs : List Run, (cellsOf rs).length = (rs.map (·.size)).sum
  | [] => rfl
  | r :: rs => by
    rw [show cellsOf (r :: rs) = r.cells ++ cellsOf rs by simp [cellsOf], List.length_append, Run.cells_length, cellsOf_length rs]; rfl
theorem avN_ok {β : Names} {v : AV} {y : Value} (h : okPart v = true) (r : v.rel1 β y) : y.cells.size = avN v := by
  cases v with
  | agg rs => cases r; simp [Value.cells, avN, cellsOf_length]
  | any => simp [okPart] at h
  | _ =>
    rw [cells_of_rel1 r (by simp) (by simp)]
    rfl
theorem rel1_of_ok {β : Names} {v : AV} {y : Value} (h : okPart v = true) (r : v.rel β y) : v.rel1 β y := by
  cases v <;> first | exact r | simp [okPart] at h
abbrev vcells (xs : List Value) : List Value := xs.flatMap fun x => x.cells.toList
theorem vcells_length {β : Names} : ∀ {vs : List AV} {xs : List Value}, vs.all okPart = true → all2 (AV.rel1 β) vs xs → (vcells xs).length = (vs.map avN).sum
  | [], [], _, _ => rfl
  | v :: vs, x :: xs, h, ⟨h1, h2⟩ => by
    simp only [List.all_cons, Bool.and_eq_true] at h
    have := avN_ok h.1 h1
    have ih := vcells_length h.2 h2
    simp only [vcells, List.flatMap_cons, List.length_append, List.map_cons, List.sum_cons] at ih ⊢
    rw [ih]; simp [this]
  | [], _ :: _, _, h => h.elim
  | _ :: _, [], _, h => h.elim
theorem vcells_set {β : Names} : ∀ {vs : List AV} {xs : List Value} {i : Nat} {u : AV} {y : Value}, vs.all okPart = true → all2 (AV.rel1 β) vs xs → vs[i]? = some u → y.cells.size = avN u →
    splice (vcells xs) ((vs.take i).map avN).sum y.cells.toList = vcells (xs.set i y) ∧ ((vs.take i).map avN).sum + avN u ≤ (vcells xs).length
  | [], _, _, _, _, _, _, h, _ => by simp at h
  | _ :: _, [], _, _, _, _, h, _, _ => h.elim
  | v :: vs, x :: xs, 0, u, y, h, ⟨h1, h2⟩, hi, hy => by
    simp only [List.getElem?_cons_zero, Option.some.injEq] at hi
    subst hi
    simp only [List.all_cons, Bool.and_eq_true] at h
    have hx := avN_ok h.1 h1
    simp only [List.take_zero, List.map_nil, List.sum_nil, List.set_cons_zero, vcells, List.flatMap_cons, List.length_append, Nat.zero_add]
    refine ⟨?_, by simp [hx]⟩
    simp only [splice, List.take_zero, List.nil_append, Nat.zero_add]
    rw [List.drop_left' (by simp [hx, hy])]
  | v :: vs, x :: xs, i + 1, u, y, h, ⟨h1, h2⟩, hi, hy => by
    simp only [List.all_cons, Bool.and_eq_true] at h
    have hx := avN_ok h.1 h1
    obtain ⟨e1, e2⟩ := vcells_set h.2 h2 (i := i) (by simpa using hi) hy
    simp only [List.take_succ_cons, List.map_cons, List.sum_cons, vcells, List.flatMap_cons, List.set_cons_succ, List.length_append] at e1 e2 ⊢
    have hxl : x.cells.toList.length = avN v := by rw [Array.length_toList, hx]
    refine ⟨?_, by omega⟩
    rw [splice_append_right _ _ _ _ (by omega)]
    rw [show avN v + ((vs.take i).map avN).sum - x.cells.toList.length = ((vs.take i).map avN).sum by simp [hx]]
    rw [e1]
theorem all2_set {α γ : Type} {R : α → γ → Prop} : ∀ {as : List α} {cs : List γ} {i : Nat} {a : α} {c : γ}, all2 R as cs → R a c → all2 R (as.set i a) (cs.set i c)
  | [], [], _, _, _, _, _ => trivial
  | _ :: _, _ :: _, 0, _, _, ⟨_, h⟩, k => ⟨k, h⟩
  | _ :: _, _ :: _, _ + 1, _, _, ⟨h1, h2⟩, k => ⟨h1, all2_set h2 k⟩
  | [], _ :: _, _, _, _, h, _ => h.elim
  | _ :: _, [], _, _, _, h, _ => h.elim
theorem mixSet_ok {β : Names} {place : Nat → Option (Nat × Nat)} : ∀ {ps : List (Nat × AV)} {ys : List (Nat × Value)} {vs vs' : List AV} {xs : List Value}, mixSet ps vs = some vs' →
    all2 (fun (p : Nat × AV) (q : Nat × Value) => p.1 = q.1 ∧ p.2.rel β q.2) ps ys → vs.all okPart = true → all2 (AV.rel1 β) vs xs → (∀ (i : Nat) (u : AV), vs[i]? = some u → place i = some (((vs.take i).map avN).sum, avN u)) →
    ∃ xs', Instr.fill place (vcells xs).toArray ys = some (vcells xs').toArray ∧ all2 (AV.rel1 β) vs' xs'
  | [], [], vs, vs', xs, h, _, _, hx, _ => by
    simp [mixSet] at h; subst h
    exact ⟨xs, by simp [Instr.fill], hx⟩
  | (i, v) :: ps, (j, y) :: ys, vs, vs', xs, h, ⟨⟨h1, h2⟩, h3⟩, ha, hx, hp => by
    simp only at h1 h2
    subst h1
    simp only [mixSet] at h
    split at h
    · rename_i u hu
      split at h
      · rename_i hc
        obtain ⟨c1, c2, c3⟩ := hc
        have r1 := rel1_of_ok c1 h2
        have hsz : y.cells.size = avN u := by rw [avN_ok c1 r1, c3]
        obtain ⟨e1, e2⟩ := vcells_set ha hx hu hsz
        have hav : ∀ j, ((vs.set i v).take j).map avN = (vs.take j).map avN := by
          intro j
          rw [List.map_take, List.map_take, List.map_set, c3]
          congr 1
          apply List.ext_getElem?
          intro k
          by_cases hk : k = i
          · subst hk
            rw [List.getElem?_set_self (by simpa using (List.getElem?_eq_some_iff.1 hu).1)]
            simp [hu]
          · rw [List.getElem?_set_ne (fun e => hk e.symm)]
        obtain ⟨xs', f1, f2⟩ := mixSet_ok (place := place) h h3 (by
          rw [List.all_eq_true] at ha ⊢
          intro z hz
          rcases List.mem_or_eq_of_mem_set hz with hz | hz
          · exact ha z hz
          · rw [hz]; exact c1) (all2_set (i := i) hx r1) (by
          intro k z hz
          rw [hav]
          by_cases hk : k = i
          · subst hk
            rw [List.getElem?_set_self (List.getElem?_eq_some_iff.1 hu).1] at hz
            cases hz
            rw [hp k u hu, c3]
          · rw [List.getElem?_set_ne (fun e => hk e.symm)] at hz
            exact hp k z hz)
        refine ⟨xs', ?_, f2⟩
        simp only [Instr.fill, hp i u hu]
        have hcond : ¬ (decide (y.cells.size ≠ avN u) || decide (((vs.take i).map avN).sum + y.cells.size > (vcells xs).toArray.size)) = true := by
          rw [Bool.or_eq_true, decide_eq_true_eq, decide_eq_true_eq, hsz, List.size_toArray]
          rintro (h | h)
          · exact h rfl
          · omega
        rw [if_neg hcond]
        have hset := foldl_set y.cells.toList 0 (vcells xs).toArray ((vs.take i).map avN).sum (by rw [Array.length_toList, hsz, List.size_toArray]; omega)
        rw [Nat.add_zero] at hset
        simp only at hset
        rw [e1] at hset
        have : (y.cells.zipIdx.foldl (fun cs (x : Value × Nat) => cs.setIfInBounds (((vs.take i).map avN).sum + x.2) x.1) (vcells xs).toArray) = (vcells (xs.set i y)).toArray := by
          apply Array.toList_inj.1
          rw [← Array.foldl_toList, Array.toList_zipIdx]
          exact hset
        rw [← f1]
        congr 1
      · cases h
    · cases h
  | [], _ :: _, _, _, _, _, h, _, _, _ => h.elim
  | _ :: _, [], _, _, _, _, h, _, _, _ => h.elim
theorem ZF.avN : ∀ z : ZF, Hg.avN z.av = z.size
  | .run k n => by simp [ZF.av, Hg.avN, ZF.size]
  | .int _ | .nils | .str | .bool => rfl
theorem ZF.okPart : ∀ z : ZF, Hg.okPart z.av = true
  | .run _ _ | .int _ | .nils | .str | .bool => rfl
theorem zplaces_at : ∀ {fs : List (Nat × Nat × Bool)} {zs : List ZF} {o : Nat}, zplaces o fs zs = true → ∀ (i : Nat) (u : AV), (zs.map ZF.av)[i]? = some u → (fs[i]?).map (fun f => (f.1, f.2.1)) = some (o + (((zs.map ZF.av).take i).map Hg.avN).sum, Hg.avN u)
  | [], [], _, _, i, u, h => by simp at h
  | (c, m, b) :: fs, z :: zs, o, hp, 0, u, h => by
    simp only [zplaces, Bool.and_eq_true, beq_iff_eq] at hp
    simp at h; subst h
    simp [hp.1.1, hp.1.2, ZF.avN]
  | (c, m, b) :: fs, z :: zs, o, hp, i + 1, u, h => by
    simp only [zplaces, Bool.and_eq_true, beq_iff_eq] at hp
    have := zplaces_at hp.2 i u (by simpa using h)
    simp only [List.getElem?_cons_succ, this, List.map_cons, List.take_succ_cons, List.sum_cons, ZF.avN, hp.1.2]
    congr 2; omega
  | [], _ :: _, _, h, _, _, _ => by simp [zplaces] at h
  | _ :: _, [], _, h, _, _, _ => by simp [zplaces] at h
theorem fill_congr {p q : Nat → Option (Nat × Nat)} : ∀ (ys : List (Nat × Value)) (cs : Array Value), (∀ x ∈ ys, p x.1 = q x.1) → Instr.fill p cs ys = Instr.fill q cs ys
  | [], _, _ => rfl
  | (i, y) :: ys, cs, h => by
    simp only [Instr.fill]
    rw [h (i, y) (by simp)]
    cases q i with
    | none => rfl
    | some c =>
      simp only
      split
      · rfl
      · exact fill_congr ys _ fun x hx => h x (by simp [hx])
theorem fill_some {q : Nat → Option (Nat × Nat)} : ∀ {ys : List (Nat × Value)} {cs cs' : Array Value}, Instr.fill q cs ys = some cs' → ∀ x ∈ ys, (q x.1).isSome
  | [], _, _, _, _, hx => by simp at hx
  | (i, y) :: ys, cs, cs', h, x, hx => by
    simp only [Instr.fill] at h
    cases hq : q i with
    | none => simp [hq] at h
    | some c =>
      simp only [hq] at h
      split at h
      · cases h
      · rcases List.mem_cons.1 hx with rfl | hx
        · simp [hq]
        · exact fill_some h x hx
theorem run_struct_places {P : Program} {w : World} : ∀ {gs : List Field} {fs : List (Nat × Nat × Bool)}, fieldsAre P gs fs = true → (gs.mapM fun f => Prod.mk f.offset <$> sizeOf f.type).run P w = .ok (fs.map fun f => (f.1, f.2.1)) w
  | [], [], _ => by simp
  | f :: gs, (o, n, b) :: fs, h => by
    simp only [fieldsAre, Bool.and_eq_true] at h
    have ih := run_struct_places (P := P) (w := w) h.2
    obtain ⟨i, hi, hs⟩ := info_of_size (P := P) (t := f.type) (n := n) (by simpa using h.1.1.1.1.2)
    have ho : f.offset = o := by simpa using h.1.1.1.1.1
    have e2 := run_sizeOf' (w := w) hi
    simp [List.mapM_cons, e2, ih, ho, hs]
  | [], _ :: _, h => by simp [fieldsAre] at h
  | _ :: _, [], h => by simp [fieldsAre] at h
theorem xbuild_ok {E : Env} (hE : laysOk E.P E.lays = true) {t : TypeId} {ps : List (Nat × AV)} {v : AV} (h : xbuild E t ps = some v) (β : Names) (w : World) (ys : Array (Nat × Value))
    (hy : all2 (fun (p : Nat × AV) (q : Nat × Value) => p.1 = q.1 ∧ p.2.rel β q.2) ps ys.toList) : ∃ u, (Instr.build t ys).run E.P w = .ok u w ∧ v.rel β u := by
  unfold xbuild at h
  split at h
  · rename_i len e esz k hl
    obtain ⟨hu, ⟨i, hi, _, hz⟩, ⟨ie, hie, hs⟩, _⟩ := lay_arr (laysOk_at hE hl)
    split at h
    · rename_i rs hf
      cases h
      have h1 := fillAll_ok hf hy
      have e1 := run_underlying hu w
      have e2 := run_sizeOf' (w := w) hie
      rw [hs] at e2
      have e3 : (zeroValue t).run E.P w = .ok (.agg (cellsOf (zruns0 [(k, len * esz)])).toArray) w := by simp [zeroValue, typeInfo, hi, hz]
      exact ⟨.agg (cellsOf rs).toArray, by simp [Instr.build, e1, e2, e3, Value.cells, h1], rfl⟩
    · cases h
  · rename_i fs rs0 hl
    obtain ⟨⟨gs, hu, hfs⟩, i, hi, _, hz⟩ := lay_struct (laysOk_at hE hl)
    split at h
    · rename_i rs hf
      cases h
      have h1 := fillAll_ok hf hy
      have e1 := run_underlying hu w
      have e3 : (zeroValue t).run E.P w = .ok (.agg (cellsOf (zruns0 rs0)).toArray) w := by simp [zeroValue, typeInfo, hi, hz]
      have e4 : (gs.mapM fun f => Prod.mk f.offset <$> sizeOf f.type).run E.P w = .ok (fs.map fun f => (f.1, f.2.1)).toArray w := by
        rw [← Array.toArray_toList (xs := gs), List.mapM_toArray, Sem.run_map, run_struct_places hfs]
        rfl
      have h2 : Instr.fill (fun i => (fs.map fun f => (f.1, f.2.1)).toArray[i]?) (cellsOf (zruns0 rs0)).toArray ys.toList = some (cellsOf rs).toArray := by
        rw [← h1]
        apply fill_congr
        intro x _
        simp
      refine ⟨.agg (cellsOf rs).toArray, ?_, rfl⟩
      simp only [Instr.build, Sem.run_bind, e3, e1, Result.andThen_ok, Value.cells]
      have e5 : (gs.mapM fun f => (do pure (f.offset, ← sizeOf f.type) : Sem (Nat × Nat))).run E.P w = .ok (fs.map fun f => (f.1, f.2.1)).toArray w := by
        rw [← e4]; congr 2
      rw [e5]
      simp only [Result.andThen_ok]
      rw [show (fun i => (fs.map fun f => (f.1, f.2.1)).toArray[i]?) = (fun i => (List.map (fun f => (f.1, f.2.1)) fs).toArray[i]?) from rfl] at h2
      simp only [h2]
      rfl
    · cases h
  · rename_i fs zs hl
    obtain ⟨⟨gs, hu, hfs⟩, ⟨i, cs, hi, _, hz, hzf⟩, hpl, _⟩ := lay_mix (laysOk_at hE hl)
    split at h
    · rename_i vs hm
      cases h
      obtain ⟨xs, q1, q2⟩ := zfs_ok hzf
      have hall : (zs.map ZF.av).all okPart = true := by
        rw [List.all_eq_true]
        intro v hv
        obtain ⟨z, _, rfl⟩ := List.mem_map.1 hv
        exact ZF.okPart z
      obtain ⟨xs', h1, h5⟩ := mixSet_ok (place := fun i => (fs[i]?).map fun f => (f.1, f.2.1)) hm hy hall (q2 β) (fun i u hu => by
        have := zplaces_at hpl i u hu
        rw [Nat.zero_add] at this
        exact this)
      have e1 := run_underlying hu w
      have e3 : (zeroValue t).run E.P w = .ok (.agg (vcells xs).toArray) w := by
        have : (vcells xs).toArray = cs := by apply Array.toList_inj.1; exact q1.symm
        simp [zeroValue, typeInfo, hi, hz, this]
      have e4 : (gs.mapM fun f => Prod.mk f.offset <$> sizeOf f.type).run E.P w = .ok (fs.map fun f => (f.1, f.2.1)).toArray w := by
        rw [← Array.toArray_toList (xs := gs), List.mapM_toArray, Sem.run_map, run_struct_places hfs]
        rfl
      have h2 : Instr.fill (fun i => (fs.map fun f => (f.1, f.2.1)).toArray[i]?) (vcells xs).toArray ys.toList = some (vcells xs').toArray := by
        rw [← h1]
        apply fill_congr
        intro x _
        simp
      refine ⟨.agg (vcells xs').toArray, ?_, xs', rfl, h5⟩
      simp only [Instr.build, Sem.run_bind, e3, e1, Result.andThen_ok, Value.cells]
      have e5 : (gs.mapM fun f => (do pure (f.offset, ← sizeOf f.type) : Sem (Nat × Nat))).run E.P w = .ok (fs.map fun f => (f.1, f.2.1)).toArray w := by
        rw [← e4]; congr 2
      rw [e5]
      simp only [Result.andThen_ok]
      rw [show (fun i => (fs.map fun f => (f.1, f.2.1)).toArray[i]?) = (fun i => (List.map (fun f => (f.1, f.2.1)) fs).toArray[i]?) from rfl] at h2
      simp only [h2]
      rfl
    · cases h
  · rename_i len e hl
    obtain ⟨hu, ⟨i, hi, _, hz⟩, ⟨ie, hie, hs⟩, _⟩ := lay_barr (laysOk_at hE hl)
    split at h
    · cases h
      have hys : ys = #[] := by
        apply Array.toList_inj.1
        cases hq : ys.toList with
        | nil => rfl
        | cons a b => rw [hq] at hy; exact hy.elim
      subst hys
      have e1 := run_underlying hu w
      have e2 := run_sizeOf' (w := w) hie
      have e3 : (zeroValue t).run E.P w = .ok (.agg (List.replicate len (.bool false)).toArray) w := by simp [zeroValue, typeInfo, hi, hz]
      refine ⟨.agg (List.replicate len (.bool false)).toArray, by simp [Instr.build, e1, e2, e3, Value.cells, Instr.fill], List.replicate len (.bool false), ?_, ?_⟩
      · congr 1
        have : ∀ m, List.replicate m (Value.bool false) = (List.replicate m (Value.bool false)).flatMap fun x => x.cells.toList := by
          intro m
          induction m with
          | zero => rfl
          | succ m ih => simp only [List.replicate_succ, List.flatMap_cons]; rw [← ih]; simp [Value.cells]
        rw [← this]
      · have : ∀ m, all2 (AV.rel1 β) (List.replicate m (AV.bool false)) (List.replicate m (Value.bool false)) := by
          intro m
          induction m with
          | zero => trivial
          | succ m ih => exact ⟨rfl, ih⟩
        exact this len
    · cases h
  · cases h
def oneAV : AV → Bool
  | .agg _ | .tup _ | .mixv _ | .any => false
  | _ => true
def seqParts : Nat → List (Nat × AV) → Bool
  | _, [] => true
  | i, (j, v) :: r => decide (i = j) && oneAV v && seqParts (i + 1) r
def strParts : Nat → List (Nat × AV) → Option (List ByteArray)
  | _, [] => some []
  | i, (j, .str s) :: r => if i = j then (match strParts (i + 1) r with | some l => some (s :: l) | none => none) else none
  | _, _ => none
def xbuildSlice (E : Env) (n : Nat) (t : TypeId) (len : Nat) (ps : List (Nat × AV)) : Option (AV × Heap) :=
  match E.lay t with
  | some (.slice e esz _) => if len * esz ≤ 16777216 then (match len, ps with
    | 0, [] => (match E.lay e with
      | some (.int k) | some (.arr _ _ _ k) => some (.slice true n 0 0 .whole esz, [⟨true, .flat 0 (.ints k fun _ => 0)⟩])
      | some .str => some (.slice true n 0 0 .whole esz, [⟨true, .flat 0 (.strs fun _ => ByteArray.empty)⟩])
      | some (.slice e2 _ _) => (match E.lay e2 with
        | some (.int k) => some (.slice true (n + 1) 0 0 .whole esz, [⟨true, .flat 0 (.ints k fun _ => 0)⟩, ⟨true, .hdr n 0 0 (fun _ => 0) (fun _ => 0) none⟩])
        | _ => none)
      | _ => none)
    | _, _ => (match E.lay e with
      | some (.int k) => (match fillAll (fun i => some (i * esz, esz)) ps (zruns0 [(k, len * esz)]) with
        | some [⟨k', m, g⟩] => some (.slice true n 0 len (.exact len) esz, [⟨true, .flat m (.ints k' g)⟩])
        | _ => none)
      | some (.arr _ _ _ k) => (match fillAll (fun i => some (i * esz, esz)) ps (zruns0 [(k, len * esz)]) with
        | some [⟨k', m, g⟩] => some (.slice true n 0 len (.exact len) esz, [⟨true, .flat m (.ints k' g)⟩])
        | _ => none)
      | some .str => (match strParts 0 ps with
        | some l => if esz = 1 ∧ seqParts 0 ps = true ∧ ps.length = len then some (.slice true n 0 len (.exact len) esz, [⟨true, .flat len (.strs fun i => l.getD i ByteArray.empty)⟩]) else none
        | none => none)
      | some .func | some (.slice ..) => if esz = 1 ∧ seqParts 0 ps = true ∧ ps.length = len then some (.slice true n 0 len (.exact len) esz, [⟨true, .avs (ps.map (·.2))⟩]) else none
      | _ => none)) else none
  | _ => none
end
end Go.Proofs.YtoeailachidcdaaGreatDoor.Hg
