import Derived.Test.YtoeailachidcdaaGreatDoorHgSem2
import Derived.ChangeKeysEq
namespace Go.Proofs.YtoeailachidcdaaGreatDoor.Hg
set_option linter.unusedVariables false
set_option linter.unusedSimpArgs false
set_option linter.unusedSectionVars false
open Go Go.RowKit
variable [Gl : Glob]
section
variable {ρ : Type}
def eqN (n : Nat) (f g : Nat → Int) : Bool := decide (∀ i, i < n → f i = g i)
theorem intArr_info {P : Program} {k : IntKind} : ∀ {d : Nat} {t : TypeId} {n : Nat}, intArr P k d t = some n → (P.info? t).map (·.size) = some n
  | 0, _, _, h => by simp [intArr] at h
  | d + 1, t, n, h => by
    simp only [intArr] at h
    split at h
    · split at h
      · rename_i hk; cases h; exact hk.2
      · cases h
    · split at h
      · split at h
        · rename_i hk; cases h; exact hk.1
        · cases h
      · cases h
    · cases h
theorem intArr_guard {P : Program} {k : IntKind} : ∀ {d D : Nat} {t : TypeId} {n : Nat}, intArr P k d t = some n → d ≤ D → P.eqGuardType D t = false
  | 0, _, _, _, h, _ => by simp [intArr] at h
  | d + 1, 0, _, _, _, h => by omega
  | d + 1, D + 1, t, n, h, hd => by
    simp only [intArr] at h
    unfold Program.eqGuardType
    split at h
    · rename_i hu; simp [hu]
    · rename_i hu
      split at h
      · rename_i m he
        simp only [hu]
        exact intArr_guard he (by omega)
      · cases h
    · cases h
theorem cells_take_drop (k : IntKind) (n c m : Nat) (g : Nat → Int) (h : c + m ≤ n) : ((Run.cells ⟨k, n, g⟩).drop c).take m = Run.cells ⟨k, m, fun j => g (c + j)⟩ := by
  have := drop_take_run ⟨k, n, g⟩ [] (c := c) (m := m) h
  simpa using this
theorem eqN_congr {n : Nat} {f g f' g' : Nat → Int} (hf : ∀ i, i < n → f i = f' i) (hg : ∀ i, i < n → g i = g' i) : eqN n f g = eqN n f' g' := by
  unfold eqN
  apply decide_eq_decide.2
  constructor
  · intro h i hi; rw [← hf i hi, ← hg i hi]; exact h i hi
  · intro h i hi; rw [hf i hi, hg i hi]; exact h i hi
theorem eqN_parts (len m : Nat) (f g : Nat → Int) : eqN (len * m) f g = (List.range len).all fun i => eqN m (fun j => f (i * m + j)) (fun j => g (i * m + j)) := by
  rw [Bool.eq_iff_iff]
  simp only [eqN, decide_eq_true_eq, List.all_eq_true, List.mem_range]
  constructor
  · intro h i hi j hj
    apply h
    calc i * m + j < i * m + m := by omega
      _ = (i + 1) * m := by rw [Nat.add_mul]; simp
      _ ≤ len * m := Nat.mul_le_mul_right m hi
  · intro h i hi
    have hm : 0 < m := by
      rcases Nat.eq_zero_or_pos m with h0 | h0
      · subst h0; simp at hi
      · exact h0
    have h1 := h (i / m) (Nat.div_lt_of_lt_mul (by rw [Nat.mul_comm]; exact hi)) (i % m) (Nat.mod_lt _ hm)
    have : i / m * m + i % m = i := by rw [Nat.mul_comm]; exact Nat.div_add_mod i m
    rw [this] at h1; exact h1
def intVal (P : Program) (t : TypeId) (k : IntKind) (n : Nat) (f : Nat → Int) : Value :=
  if aggT P t = true then .agg (Run.cells ⟨k, n, f⟩).toArray else .int k (f 0)
theorem info_of_size {P : Program} {t : TypeId} {n : Nat} (h : (P.info? t).map (·.size) = some n) : ∃ i, P.info? t = some i ∧ i.size = n := by
  cases hi : P.info? t with
  | none => simp [hi] at h
  | some i => exact ⟨i, rfl, by simpa [hi] using h⟩
theorem run_eqItems_ints {P : Program} {w : World} {k : IntKind} {e : TypeId} {m D N : Nat} {f g : Nat → Int}
    (hp : ∀ (f : Nat → Int) (i : Nat), i * m + m ≤ N → (part e (Run.cells ⟨k, N, f⟩).toArray (i * m)).run P w = .ok (intVal P e k m fun j => f (i * m + j)) w)
    (ih : ∀ f g : Nat → Int, (Op.equalIn D e (intVal P e k m f) (intVal P e k m g)).run P w = .ok (eqN m f g) w) :
    ∀ is : List Nat, (∀ i ∈ is, i * m + m ≤ N) → (Op.eqItems D e m (Run.cells ⟨k, N, f⟩).toArray (Run.cells ⟨k, N, g⟩).toArray is).run P w = .ok (is.all fun i => eqN m (fun j => f (i * m + j)) (fun j => g (i * m + j))) w
  | [], _ => by simp [Op.eqItems]
  | i :: is, h => by
    have hi := h i (by simp)
    have r := run_eqItems_ints hp ih is (fun j hj => h j (by simp [hj])) (f := f) (g := g)
    simp only [Op.eqItems, Sem.run_bind, hp _ i hi, Result.andThen_ok, ih]
    cases hb : eqN m (fun j => f (i * m + j)) (fun j => g (i * m + j)) with
    | false => simp [hb]
    | true =>
      simp only [Bool.not_true, Bool.false_eq_true, if_false, List.all_cons, hb, Bool.true_and]
      first | exact r | simpa using r
theorem run_equalIn_ints {P : Program} {w : World} {k : IntKind} : ∀ {d D : Nat} {t : TypeId} {n : Nat}, intArr P k d t = some n → d ≤ D → ∀ f g : Nat → Int,
    (Op.equalIn D t (intVal P t k n f) (intVal P t k n g)).run P w = .ok (eqN n f g) w
  | 0, _, _, _, h, _, _, _ => by simp [intArr] at h
  | d + 1, 0, _, _, _, h, _, _ => by omega
  | d + 1, D + 1, t, n, h, hd, f, g => by
    have h0 := h
    simp only [intArr] at h
    split at h
    · rename_i k' hu
      split at h
      · rename_i hk
        obtain ⟨rfl, _⟩ := hk
        cases h
        have ha : aggT P t = false := by simp [aggT, hu]
        have e1 := run_underlying hu w
        have e : eqN 1 f g = (f 0 == g 0) := by
          unfold eqN
          rw [Bool.eq_iff_iff]
          simp only [decide_eq_true_eq, beq_iff_eq]
          exact ⟨fun h => h 0 (by omega), fun h i hi => by rw [show i = 0 by omega]; exact h⟩
        simp [intVal, ha, Op.equalIn, e1, e]
      · cases h
    · rename_i len e hu
      split at h
      · rename_i m he
        split at h
        · rename_i hk
          cases h
          have ha : aggT P t = true := by simp [aggT, hu]
          obtain ⟨ie, hie, hse⟩ := info_of_size hk.2
          have hco : P.cellsOf e = m := by simp [Program.cellsOf, hie, hse]
          simp only [intVal, ha, if_true]
          rw [run_equalIn_array (P := P) (w := w) D _ _ hu hie, hco, eqN_parts]
          refine run_eqItems_ints (fun f i hi => ?_) (fun f g => run_equalIn_ints he (by omega) f g) _ (fun i hi => ?_)
          · unfold intVal
            split
            · rename_i hae
              rw [run_part_agg hae (aggT_under hae) hk.2, cells_take_drop _ _ _ _ _ hi]
            · rename_i hae
              have hm : 0 < m := by
                rcases Nat.eq_zero_or_pos m with h0 | h0
                · exfalso
                  subst h0
                  cases d with
                  | zero => simp [intArr] at he
                  | succ d =>
                    simp only [intArr] at he
                    split at he
                    · split at he
                      · simp at he
                      · cases he
                    · rename_i hue
                      exact hae (by simp [aggT, hue])
                    · cases he
                · exact h0
              have hd' : ∃ d, P.underlying e = some d := by
                cases d with
                | zero => simp [intArr] at he
                | succ d =>
                  simp only [intArr] at he
                  split at he
                  · exact ⟨_, by assumption⟩
                  · exact ⟨_, by assumption⟩
                  · cases he
              refine run_part_one (by simpa using hae) hd' ?_
              rw [Run.cells_get _ (by show i * m < len * m; omega)]
              simp
          · have : i < len := by simpa using hi
            calc i * m + m = (i + 1) * m := by rw [Nat.add_mul]; simp
              _ ≤ len * m := Nat.mul_le_mul_right m this
        · cases h
      · cases h
    · cases h
end
end Go.Proofs.YtoeailachidcdaaGreatDoor.Hg
