/- Built values, slices, tuples, function values: on abstract states. -/
import Derived.Test.YtjnfeffflkgddaaHxSem5
namespace Go.Proofs.Ytjnfeffflkgddaa.Hx
set_option linter.unusedVariables false
set_option linter.unusedSimpArgs false
open Go Go.RowKit

section
variable {ρ : Type}

def evParts (s : St) (ps : List (Nat × Operand)) : List (Nat × AV) := ps.map fun p => (p.1, s.ev p.2)

theorem evParts_rel {β : Names} {s : St} {a : Act} {w : World} (r : Rel β s a w) (ps : Array (Nat × Operand)) :
    all2 (fun (p : Nat × AV) (q : Nat × Value) => p.1 = q.1 ∧ p.2.rel β q.2) (evParts s ps.toList) (ps.map fun (i, x) => (i, a.eval x)).toList := by
  rw [Array.toList_map]
  unfold evParts
  generalize ps.toList = l
  induction l with
  | nil => trivial
  | cons p l ih => exact ⟨⟨rfl, r.ev p.2⟩, ih⟩

def xbuild (E : Env) (t : TypeId) (ps : List (Nat × AV)) : Option AV :=
  match E.lay t with
  | some (.arr len _ esz k) => (match fillAll (fun i => some (i * esz, esz)) ps (zruns0 [(k, len * esz)]) with | some rs => some (.agg rs) | none => none)
  | some (.struct fs rs0) => (match fillAll (fun i => (fs[i]?).map fun f => (f.1, f.2.1)) ps (zruns0 rs0) with | some rs => some (.agg rs) | none => none)
  | _ => none

theorem fill_congr {p q : Nat → Option (Nat × Nat)} : ∀ (ys : List (Nat × Value)) (cs : Array Value), (∀ x ∈ ys, p x.1 = q x.1) → Instr.fill p cs ys = Instr.fill q cs ys
  | [], _, _ => rfl
  | (i, y) :: ys, cs, h => by
    simp only [Instr.fill]
    rw [h (i, y) (by simp)]
    cases q i with
    | none => rfl
    | some c =>
      simp only
      split
      · rfl
      · exact fill_congr ys _ fun x hx => h x (by simp [hx])

theorem fill_some {q : Nat → Option (Nat × Nat)} : ∀ {ys : List (Nat × Value)} {cs cs' : Array Value}, Instr.fill q cs ys = some cs' → ∀ x ∈ ys, (q x.1).isSome
  | [], _, _, _, _, hx => by simp at hx
  | (i, y) :: ys, cs, cs', h, x, hx => by
    simp only [Instr.fill] at h
    cases hq : q i with
    | none => simp [hq] at h
    | some c =>
      simp only [hq] at h
      split at h
      · cases h
      · rcases List.mem_cons.1 hx with rfl | hx
        · simp [hq]
        · exact fill_some h x hx

theorem run_struct_places {P : Program} {w : World} : ∀ {gs : List Field} {fs : List (Nat × Nat × Bool)}, fieldsAre P gs fs = true → (gs.mapM fun f => Prod.mk f.offset <$> sizeOf f.type).run P w = .ok (fs.map fun f => (f.1, f.2.1)) w
  | [], [], _ => by simp
  | f :: gs, (o, n, b) :: fs, h => by
    simp only [fieldsAre, Bool.and_eq_true] at h
    have ih := run_struct_places (P := P) (w := w) h.2
    obtain ⟨i, hi, hs⟩ := info_of_size (P := P) (t := f.type) (n := n) (by simpa using h.1.1.1.1.2)
    have ho : f.offset = o := by simpa using h.1.1.1.1.1
    have e2 := run_sizeOf' (w := w) hi
    simp [List.mapM_cons, e2, ih, ho, hs]
  | [], _ :: _, h => by simp [fieldsAre] at h
  | _ :: _, [], h => by simp [fieldsAre] at h

theorem xbuild_ok {E : Env} (hE : laysOk E.P E.lays = true) {t : TypeId} {ps : List (Nat × AV)} {v : AV} (h : xbuild E t ps = some v) (β : Names) (w : World) (ys : Array (Nat × Value))
    (hy : all2 (fun (p : Nat × AV) (q : Nat × Value) => p.1 = q.1 ∧ p.2.rel β q.2) ps ys.toList) : ∃ u, (Instr.build t ys).run E.P w = .ok u w ∧ v.rel β u := by
  unfold xbuild at h
  split at h
  · rename_i len e esz k hl
    obtain ⟨hu, ⟨i, hi, _, hz⟩, ⟨ie, hie, hs⟩, _⟩ := lay_arr (laysOk_at hE hl)
    split at h
    · rename_i rs hf
      cases h
      have h1 := fillAll_ok hf hy
      have e1 := run_underlying hu w
      have e2 := run_sizeOf' (w := w) hie
      rw [hs] at e2
      have e3 : (zeroValue t).run E.P w = .ok (.agg (cellsOf (zruns0 [(k, len * esz)])).toArray) w := by simp [zeroValue, typeInfo, hi, hz]
      exact ⟨.agg (cellsOf rs).toArray, by simp [Instr.build, e1, e2, e3, Value.cells, h1], rfl⟩
    · cases h
  · rename_i fs rs0 hl
    obtain ⟨⟨gs, hu, hfs⟩, i, hi, _, hz⟩ := lay_struct (laysOk_at hE hl)
    split at h
    · rename_i rs hf
      cases h
      have h1 := fillAll_ok hf hy
      have e1 := run_underlying hu w
      have e3 : (zeroValue t).run E.P w = .ok (.agg (cellsOf (zruns0 rs0)).toArray) w := by simp [zeroValue, typeInfo, hi, hz]
      have e4 : (gs.mapM fun f => Prod.mk f.offset <$> sizeOf f.type).run E.P w = .ok (fs.map fun f => (f.1, f.2.1)).toArray w := by
        rw [← Array.toArray_toList (xs := gs), List.mapM_toArray, Sem.run_map, run_struct_places hfs]
        rfl
      have h2 : Instr.fill (fun i => (fs.map fun f => (f.1, f.2.1)).toArray[i]?) (cellsOf (zruns0 rs0)).toArray ys.toList = some (cellsOf rs).toArray := by
        rw [← h1]
        apply fill_congr
        intro x _
        simp
      refine ⟨.agg (cellsOf rs).toArray, ?_, rfl⟩
      simp only [Instr.build, Sem.run_bind, e3, e1, Result.andThen_ok, Value.cells]
      have e5 : (gs.mapM fun f => (do pure (f.offset, ← sizeOf f.type) : Sem (Nat × Nat))).run E.P w = .ok (fs.map fun f => (f.1, f.2.1)).toArray w := by
        rw [← e4]; congr 2
      rw [e5]
      simp only [Result.andThen_ok]
      rw [show (fun i => (fs.map fun f => (f.1, f.2.1)).toArray[i]?) = (fun i => (List.map (fun f => (f.1, f.2.1)) fs).toArray[i]?) from rfl] at h2
      simp only [h2]
      rfl
    · cases h
  · cases h

/-! slices -/

def oneAV : AV → Bool
  | .agg _ | .tup _ | .any => false
  | _ => true

/-- all of a row, one behind the other, each of one cell -/
def seqParts : Nat → List (Nat × AV) → Bool
  | _, [] => true
  | i, (j, v) :: r => decide (i = j) && oneAV v && seqParts (i + 1) r

def xbuildSlice (E : Env) (n : Nat) (t : TypeId) (len : Nat) (ps : List (Nat × AV)) : Option (AV × Heap) :=
  match E.lay t with
  | some (.slice e esz _) => if len * esz ≤ 16777216 then (match E.lay e with
    | some (.int k) => (match fillAll (fun i => some (i * esz, esz)) ps (zruns0 [(k, len * esz)]) with
      | some [⟨k', m, g⟩] => some (.slice n 0 len (some len) esz, [⟨true, .ints k' m g⟩])
      | _ => none)
    | some (.arr _ _ _ k) => (match fillAll (fun i => some (i * esz, esz)) ps (zruns0 [(k, len * esz)]) with
      | some [⟨k', m, g⟩] => some (.slice n 0 len (some len) esz, [⟨true, .ints k' m g⟩])
      | _ => none)
    | some .func => if esz = 1 ∧ seqParts 0 ps = true ∧ ps.length = len then some (.slice n 0 len (some len) esz, [⟨true, .avs (ps.map (·.2))⟩]) else none
    | _ => none) else none
  | _ => none

end
end Go.Proofs.Ytjnfeffflkgddaa.Hx
