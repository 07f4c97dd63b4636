import Derived.Test.YtoeailachidcdaaGreatDoorHgUse
import Derived.WalkKit
import Derived.ProofKit
import Derived.OpenShut
import Derived.ShutString
import Derived.ChangeOld
import Derived.Below
import Derived.SizedLaws
import Derived.Carry
namespace Go.Proofs.YtoeailachidcdaaGreatDoor.Hg
set_option linter.unusedVariables false
set_option linter.unusedSimpArgs false
set_option linter.unusedSectionVars false
open Go Go.RowKit Go.ChangeShapes Go.WideShapes
variable [Gl : Glob]
section
variable {H : Type} {enc : TypeId × Value → H}
theorem trodAll_below {P : Program} (hl : laidOutB P = true) {W W' : World} (hb : Below W.heap.size W W') : ∀ {ts : List TypeId} {vs : List Value} {ds : List (DataW H)} {ps : List MemPlace}, (∀ t ∈ ts, P.readableRec t = true ∧ t < P.types.size) →
    DataW.TrodAll enc P W 0 (fun _ => true) true ts vs ds ps → DataW.TrodAll enc P W' 0 (fun b => decide (b < W.heap.size)) true ts vs ds ps
  | [], vs, ds, ps, _, h => by
    cases vs <;> cases ds <;> simp [DataW.TrodAll] at h ⊢
    exact h
  | t :: ts, vs, ds, ps, hr, h => by
    obtain ⟨v, vs', d, ds', p, q, rfl, rfl, rfl, h1, h2⟩ := trodAll_cons h
    obtain ⟨r1, r2⟩ := hr t (List.mem_cons_self ..)
    refine trodAll_cons_mk (Below.trod hl r1 r2 h1 hb ?_) (trodAll_below hl hb (fun t ht => hr t (List.mem_cons_of_mem _ ht)) h2)
    obtain ⟨n, hn⟩ := h1
    exact DataW.trod_lt n _ _ _ hn
theorem trodAll_len {P : Program} {W : World} {b : Nat} {sp : Nat → Bool} {held : Bool} : ∀ {ts : List TypeId} {vs : List Value} {ds : List (DataW H)} {ps : List MemPlace}, DataW.TrodAll enc P W b sp held ts vs ds ps → vs.length = ts.length ∧ ds.length = ts.length
  | [], vs, ds, ps, h => by cases vs <;> cases ds <;> simp [DataW.TrodAll] at h ⊢
  | t :: ts, vs, ds, ps, h => by
    obtain ⟨v, vs', d, ds', p, q, rfl, rfl, rfl, h1, h2⟩ := trodAll_cons h
    have := trodAll_len h2
    simp [this.1, this.2]
theorem returns_true {C : Checked} {os : Os} {f : FuncId} {fn : Func} {s : ChangeSpec} {conds : List PathCond} {fresh : Bool} {tb : TypeId}
    (own : ownKnob C.prog.godebug = none) (started : os.Started) (noInit : C.prog.inits.idxOf? f = none) (hfn : C.prog.funcs[f]? = some fn)
    (witness : ∃ (w : World) (tape : Tape) (i : Input), w.os = os ∧ (w.forCall tape i).Shaped C.prog ∧ i.vars = [] ∧ Input.okWide C.prog (w.forCall tape i) .any w.heap.size f i ∧
      s.pre6 enc C.prog fn conds false (w.forCall tape i).memory i.args ∧ ({} : Assume).holds C.prog (lone (Frame.enter C.prog f i.args .normal) [] (w.forCall tape i)))
    (hvars : s.vars = []) (hl : laidOutB C.prog = true) (hread : fn.params.toList.all (fun t => C.prog.readableRec t && decide (t < C.prog.types.size)) = true)
    (hres : fn.resultTypes = #[tb]) (hbool : C.prog.underlying tb = some .bool)
    (hspec : ∀ ds : List (DataW H), ds.length = fn.params.size → s.fn H ds = { results := [.lit (.bool true)], args := ds })
    (run : ∀ (W : World) (base : Nat) (args : Array Value) (ds : List (DataW H)) (ps : List MemPlace), (∀ (j : Nat) t v, fn.params[j]? = some t → args[j]? = some v → Value.okWide C.prog W .any base t v) → args.size = fn.params.size →
      DataW.TrodAll enc C.prog W 0 (fun _ => true) true fn.params.toList args.toList ds ps →
      Calls C.prog f args W fun e w' => e = .returned (.bool true) ∧ Below W.heap.size W w') :
    ReturnsInHanded {} C os f .any (s.pre6 enc C.prog fn conds false) (s.post enc C.prog fn false fresh false false) := by
  refine returnsInHanded_of_change_sized own started noInit hfn witness ?_
  intro W base args ds gs before hval hW _ _ _
  have hW' := hW
  obtain ⟨p, q, hA, hV, rfl, hfz, hnd⟩ := hW
  rw [hvars] at hV
  obtain ⟨rfl, rfl⟩ := trodVars_none hV
  have hlen := trodAll_len hA
  have hsz : args.size = fn.params.size := by have := hlen.1; simpa using this
  refine (run W base args ds p hval hsz hA).mono fun e W' ⟨he, bel⟩ => ?_
  subst he
  have hs := hspec (ds ++ []) (by have := hlen.2; simpa using this)
  refine ⟨_, rfl, ds, [], p ++ [], [], p, [], hW', ?_, ?_, ?_, bel.frame _, fun h => by cases h⟩
  · rw [hs, hres]; exact trodAll_mk1 (shut_bool hbool _)
  · rw [hs]
    simp only [List.append_nil]
    refine trodAll_below hl bel (fun t ht => ?_) hA
    rw [List.all_eq_true] at hread
    have := hread t ht
    simpa using this
  · rw [hs, hvars]; rfl
end
theorem ok_int {P : Program} {w : World} {r : Reach} {b : Nat} {t : TypeId} {k : IntKind} {v : Value} (ht : P.underlying t = some (.int k)) (h : Value.okWide P w r b t v) : ∃ n, v = .int k n ∧ k.has n := by
  unfold Value.okWide at h
  rw [ht] at h
  simp only [Cell.okWide, ht] at h
  cases v <;> simp [Cell.ok, ht] at h
  obtain ⟨rfl, h⟩ := h
  exact ⟨_, rfl, h⟩
theorem ok_bool {P : Program} {w : World} {r : Reach} {b : Nat} {t : TypeId} {v : Value} (ht : P.underlying t = some .bool) (h : Value.okWide P w r b t v) : ∃ n, v = .bool n := by
  unfold Value.okWide at h
  rw [ht] at h
  simp only [Cell.okWide, ht] at h
  cases v <;> simp [Cell.ok, ht] at h
  exact ⟨_, rfl⟩
def expand (rs : List (IntKind × Nat)) : List IntKind := rs.flatMap fun p => List.replicate p.2 p.1
def kindOf (P : Program) (t : TypeId) : Option IntKind := match P.underlying t with | some (.int k) => some k | _ => none
def flatB (P : Program) (t : TypeId) (rs : List (IntKind × Nat)) : Bool :=
  (match P.underlying t with | some (.struct _) => true | some (.array _ _) => true | _ => false) &&
  (match P.cellTypes P.depth t with
    | some ts => decide (ts.map (kindOf P) = (expand rs).map some) && decide (P.cellsOf t = ts.length)
    | none => false)
open Classical in
theorem runs_of : ∀ {rs : List (IntKind × Nat)} {l : List Value}, l.length = (expand rs).length → (∀ (i : Nat) (v : Value), l[i]? = some v → ∃ k n, (expand rs)[i]? = some k ∧ v = .int k n ∧ k.has n) →
    ∃ Rs : List Run, l = cellsOf Rs ∧ Rs.map (fun R => (R.kind, R.size)) = rs ∧ ∀ R ∈ Rs, ∀ i, R.kind.has (R.get i)
  | [], l, hl, _ => ⟨[], by simpa [expand, cellsOf] using hl, rfl, by simp⟩
  | (k, n) :: rs, l, hl, h => by
    have e : expand ((k, n) :: rs) = List.replicate n k ++ expand rs := by simp [expand]
    rw [e] at hl h
    obtain ⟨Rs, h1, h2, h3⟩ := runs_of (rs := rs) (l := l.drop n) (by simp at hl ⊢; omega) (fun i v hv => by
      rw [List.getElem?_drop] at hv
      obtain ⟨k', n', h4, h5, h6⟩ := h _ v hv
      refine ⟨k', n', ?_, h5, h6⟩
      rw [List.getElem?_append_right (by simp)] at h4
      simpa using h4)
    refine ⟨⟨k, n, fun i => match l[i]? with | some (.int _ z) => if k.has z ∧ i < n then z else 0 | _ => 0⟩ :: Rs, ?_, by simp [h2], ?_⟩
    · have e2 : l = l.take n ++ l.drop n := (List.take_append_drop n l).symm
      rw [show cellsOf (_ :: Rs) = Run.cells _ ++ cellsOf Rs from rfl, ← h1]
      conv => lhs; rw [e2]
      congr 1
      apply List.ext_getElem?
      intro i
      by_cases hi : i < n
      · rw [List.getElem?_take_of_lt hi, Run.cells_get _ hi]
        have hlt : i < l.length := by simp at hl; omega
        obtain ⟨k', n', h4, h5, h6⟩ := h i l[i] (List.getElem?_eq_getElem hlt)
        rw [List.getElem?_append_left (by simpa using hi)] at h4
        have hk : k = k' := by simpa [hi] using h4
        subst hk
        simp only [List.getElem?_eq_getElem hlt, h5]
        rw [if_pos ⟨h6, hi⟩]
      · rw [List.getElem?_eq_none (by simp; omega), List.getElem?_eq_none (by rw [Run.cells_length]; exact Nat.le_of_not_lt hi)]
    · intro R hR
      rcases List.mem_cons.1 hR with rfl | hR
      · intro i
        have h0 : k.has 0 := by cases k <;> constructor <;> decide
        simp only
        split
        · split
          · rename_i hh; exact hh.1
          · exact h0
        · exact h0
      · exact h3 R hR
theorem ok_flat {P : Program} {w : World} {r : Reach} {b : Nat} {t : TypeId} {rs : List (IntKind × Nat)} {v : Value} (hf : flatB P t rs = true) (h : Value.okWide P w r b t v) :
    ∃ Rs : List Run, v = .agg (cellsOf Rs).toArray ∧ Rs.map (fun R => (R.kind, R.size)) = rs ∧ ∀ R ∈ Rs, ∀ i, R.kind.has (R.get i) := by
  unfold flatB at hf
  rw [Bool.and_eq_true] at hf
  obtain ⟨h1, h2⟩ := hf
  split at h2
  case h_2 => cases h2
  rename_i ts hts
  simp only [Bool.and_eq_true, decide_eq_true_eq] at h2
  obtain ⟨h2, h3⟩ := h2
  have key : ∃ cs, v = .agg cs ∧ cs.size = P.cellsOf t ∧ Row.okWide P w r b t cs := by
    unfold Value.okWide at h
    split at h1
    · rename_i he; rw [he] at h; exact h
    · rename_i he; rw [he] at h; exact h
    · cases h1
  obtain ⟨cs, rfl, hsz, ts', hts', _, hc⟩ := key
  rw [hts] at hts'
  cases hts'
  have hlen : ts.length = (expand rs).length := by have := congrArg List.length h2; simpa using this
  obtain ⟨Rs, e1, e2, e3⟩ := runs_of (rs := rs) (l := cs.toList) (by simp; omega) (fun i u hu => by
    have hi : i < cs.size := by have := (List.getElem?_eq_some_iff.1 hu).1; simpa using this
    have hu' : cs[i]? = some u := by simpa using hu
    obtain ⟨x, hx, hok⟩ := hc i u hu'
    rw [Nat.mod_eq_of_lt (by omega)] at hx
    have hk := congrArg (fun l => l[i]?) h2
    simp only [List.getElem?_map, hx, Option.map_some] at hk
    cases hke : (expand rs)[i]? with
    | none => rw [hke] at hk; simp at hk
    | some k =>
      rw [hke] at hk
      simp only [Option.map_some, Option.some.injEq] at hk
      unfold kindOf at hk
      split at hk
      · rename_i k' he
        cases hk
        simp only [Cell.okWide, he] at hok
        cases u <;> simp [Cell.ok, he] at hok
        obtain ⟨rfl, hok⟩ := hok
        exact ⟨_, _, rfl, rfl, hok⟩
      · cases hk)
  exact ⟨Rs, by rw [← e1], e2, e3⟩
def flatT (P : Program) (t : TypeId) (rs : List (TypeId × IntKind × Nat)) : Bool :=
  (match P.underlying t with | some (.struct _) => true | some (.array _ _) => true | _ => false) &&
  ((match P.cellTypes P.depth t with
    | some ts => decide (ts = rs.flatMap fun r => List.replicate r.2.2 r.1) && decide (P.cellsOf t = (rs.map fun r => r.2.2).sum)
    | none => false) && rs.all fun r => decide (kindOf P r.1 = some r.2.1))
theorem flatB_of {P : Program} {t : TypeId} {rs : List (TypeId × IntKind × Nat)} (h : flatT P t rs = true) : flatB P t (rs.map fun r => (r.2.1, r.2.2)) = true := by
  unfold flatT at h
  rw [Bool.and_eq_true, Bool.and_eq_true] at h
  obtain ⟨h1, h2, h3⟩ := h
  unfold flatB
  rw [Bool.and_eq_true]
  refine ⟨h1, ?_⟩
  split at h2
  · rename_i ts hts
    rw [Bool.and_eq_true, decide_eq_true_eq, decide_eq_true_eq] at h2
    obtain ⟨rfl, h5⟩ := h2
    simp only [Bool.and_eq_true, decide_eq_true_eq]
    have key : ∀ rs : List (TypeId × IntKind × Nat), (rs.all fun r => decide (kindOf P r.1 = some r.2.1)) = true →
        (rs.flatMap fun r => List.replicate r.2.2 r.1).map (kindOf P) = (expand (rs.map fun r => (r.2.1, r.2.2))).map some ∧ (rs.map fun r => r.2.2).sum = (rs.flatMap fun r => List.replicate r.2.2 r.1).length := by
      intro rs
      induction rs with
      | nil => intro _; exact ⟨rfl, rfl⟩
      | cons r rs ih =>
        intro hr
        simp only [List.all_cons, Bool.and_eq_true, decide_eq_true_eq] at hr
        obtain ⟨e1, e2⟩ := ih (by simpa using hr.2)
        refine ⟨?_, ?_⟩
        · simp only [List.flatMap_cons, List.map_append, List.map_replicate, hr.1, e1, expand, List.map_cons]
        · rw [List.map_cons, List.sum_cons, List.flatMap_cons, List.length_append, List.length_replicate, e2]
    obtain ⟨k1, k2⟩ := key rs h3
    exact ⟨k1, by rw [h5, k2]⟩
  · cases h2
def noughts (rs : List (TypeId × IntKind × Nat)) : Array Value := (rs.flatMap fun r => List.replicate r.2.2 (.int r.2.1 0)).toArray
theorem has_zero (k : IntKind) : k.has 0 := by cases k <;> constructor <;> decide
theorem noughts_at : ∀ {rs : List (TypeId × IntKind × Nat)} {i : Nat} {v : Value}, (rs.flatMap fun r => List.replicate r.2.2 (Value.int r.2.1 0))[i]? = some v →
    ∃ r, r ∈ rs ∧ (rs.flatMap fun r => List.replicate r.2.2 r.1)[i]? = some r.1 ∧ v = .int r.2.1 0
  | [], i, v, h => by simp at h
  | r :: rs, i, v, h => by
    simp only [List.flatMap_cons] at h ⊢
    rcases Nat.lt_or_ge i r.2.2 with hlt | hge
    · rw [List.getElem?_append_left (by simpa using hlt)] at h ⊢
      rw [List.getElem?_replicate, if_pos hlt] at h
      refine ⟨r, List.mem_cons_self .., ?_, by simpa using h.symm⟩
      rw [List.getElem?_replicate, if_pos hlt]
    · rw [List.getElem?_append_right (by simpa using hge)] at h ⊢
      simp only [List.length_replicate] at h ⊢
      obtain ⟨r', h1, h2, h3⟩ := noughts_at h
      exact ⟨r', List.mem_cons_of_mem _ h1, h2, h3⟩
theorem noughts_len {rs : List (TypeId × IntKind × Nat)} : (rs.flatMap fun r => List.replicate r.2.2 (Value.int r.2.1 0)).length = (rs.flatMap fun r => List.replicate r.2.2 r.1).length := by
  induction rs with
  | nil => rfl
  | cons r rs ih => simp only [List.flatMap_cons, List.length_append, List.length_replicate, ih]
theorem okWide_flat {P : Program} {w : World} {q : Reach} {b : Nat} {t : TypeId} {rs : List (TypeId × IntKind × Nat)} (hf : flatT P t rs = true) : Value.okWide P w q b t (.agg (noughts rs)) := by
  unfold flatT at hf
  rw [Bool.and_eq_true, Bool.and_eq_true] at hf
  obtain ⟨h1, h2, h3⟩ := hf
  rw [List.all_eq_true] at h3
  split at h2
  case h_2 => cases h2
  rename_i ts hts
  rw [Bool.and_eq_true, decide_eq_true_eq, decide_eq_true_eq] at h2
  obtain ⟨rfl, h5⟩ := h2
  have hl : (noughts rs).size = (rs.flatMap fun r => List.replicate r.2.2 r.1).length := by
    unfold noughts; rw [List.size_toArray, noughts_len]
  have hlen : P.cellsOf t = (rs.flatMap fun r => List.replicate r.2.2 r.1).length := by
    rw [h5]
    clear h1 h3 h5 hts hl
    induction rs with
    | nil => rfl
    | cons r rs ih => rw [List.map_cons, List.sum_cons, List.flatMap_cons, List.length_append, List.length_replicate, ih]
  have key : ∃ cs, Value.agg (noughts rs) = .agg cs ∧ cs.size = P.cellsOf t ∧ Row.okWide P w q b t cs := by
    refine ⟨_, rfl, by rw [hl, hlen], _, hts, ⟨1, by rw [hl, Nat.one_mul]⟩, fun i v hv => ?_⟩
    have hv' : (rs.flatMap fun r => List.replicate r.2.2 (Value.int r.2.1 0))[i]? = some v := by
      unfold noughts at hv; simpa using hv
    obtain ⟨r, hr, h6, rfl⟩ := noughts_at hv'
    have hi : i < (rs.flatMap fun r => List.replicate r.2.2 r.1).length := (List.getElem?_eq_some_iff.1 h6).1
    rw [Nat.mod_eq_of_lt hi]
    refine ⟨_, h6, ?_⟩
    have hk := of_decide_eq_true (h3 r hr)
    unfold kindOf at hk
    split at hk
    · rename_i k he
      cases hk
      simp [Cell.okWide, he, Cell.ok, has_zero]
    · cases hk
  unfold Value.okWide
  split at h1
  · rename_i he; rw [he]; exact key
  · rename_i he; rw [he]; exact key
  · cases h1
theorem okWide_int {P : Program} {w : World} {q : Reach} {b : Nat} {t : TypeId} {k : IntKind} (ht : P.underlying t = some (.int k)) : Value.okWide P w q b t (.int k 0) := by
  unfold Value.okWide
  rw [ht]
  simp [Cell.okWide, ht, Cell.ok, has_zero]
def readB {H : Type} (enc : TypeId × Value → H) (P : Program) (f : Func) (s : ChangeSpec) (conds : List PathCond) (apart : Bool) (w : World) (args : Array Value) (fuel : Nat) : Bool :=
  (P.platform == "linux/amd64/v1") && match DataW.whole enc P w f.params.toList s.vars apart args.toList fuel with
    | some x => conds.all (PathCond.test P ⟨f.params.toList, x.1, s.plain.varTypes P, x.2.1⟩) && (DataW.weightsEach P (f.params.toList ++ s.plain.varTypes P) (x.1 ++ x.2.1)).all (· ≤ reachBytes)
    | none => false
theorem readB_pre {H : Type} {enc : TypeId × Value → H} {P : Program} {f : Func} {s : ChangeSpec} {conds : List PathCond} {apart : Bool} {w : World} {args : Array Value} {fuel : Nat} (h : readB enc P f s conds apart w args fuel = true) :
    s.pre6 enc P f conds apart w args := by
  unfold readB at h
  rw [Bool.and_eq_true] at h
  obtain ⟨hp, h⟩ := h
  split at h
  · rename_i x hx
    rw [Bool.and_eq_true] at h
    refine ⟨ChangeSpec.pre_of_preB (fuel := fuel) ?_, sizedMet_of_sizedB (fuel := fuel) ?_⟩
    · unfold ChangeSpec.preB; rw [hx]; exact h.1
    · unfold ChangeSpec.sizedB; rw [hx, hp]; exact h.2
  · cases h
theorem witness_of {H : Type} {enc : TypeId × Value → H} {C : Checked} {os : Os} {f : FuncId} {fn : Func} {s : ChangeSpec} {conds : List PathCond} {apart : Bool} (args : Array Value) (fuel : Nat)
    (hv : (World.plainHolding C.prog os ⟨#[], args, []⟩).variablesB C.prog = true)
    (hr : ((World.plainHolding C.prog os ⟨#[], args, []⟩).heap.toList.drop C.prog.globals.size).take ((begin C.prog (fun _ _ => 0) default).world.heap.size - C.prog.globals.size) =
      (begin C.prog (fun _ _ => 0) default).world.heap.toList.drop C.prog.globals.size)
    (noInit : C.prog.inits.idxOf? f = none) (hfn : C.prog.funcs[f]? = some fn) (hbody : fn.body.isSome = true) (hours : fn.ours = false) (hfree : fn.nfree = 0) (hsize : args.size = fn.params.size)
    (hok : ∀ (w : World) (b : Nat) (j : Nat) t v, fn.params[j]? = some t → args[j]? = some v → Value.okWide C.prog w .any b t v)
    (hpre : readB enc C.prog fn s conds apart (World.plainHolding C.prog os ⟨#[], args, []⟩).memory args fuel = true) :
    ∃ (w : World) (tape : Tape) (i : Input), w.os = os ∧ (w.forCall tape i).Shaped C.prog ∧ i.vars = [] ∧ Input.okWide C.prog (w.forCall tape i) .any w.heap.size f i ∧
      s.pre6 enc C.prog fn conds apart (w.forCall tape i).memory i.args ∧ ({} : Assume).holds C.prog (lone (Frame.enter C.prog f i.args .normal) [] (w.forCall tape i)) :=
  ⟨World.holding C.prog os ⟨#[], args, []⟩, fun _ _ => 0, ⟨#[], args, []⟩, rfl, World.shaped_of_B hv hr, rfl,
    ⟨fun o ho => by simp at ho, fun g hg => by simp at hg, noInit, fn, hfn, hbody, hours, hfree, hsize, hok _ _⟩, readB_pre hpre, by
    simp only [Assume.holds]
    exact ⟨by simp, by simp, fun _ => Modest.zero, by simp, by simp⟩⟩
theorem run_cons {Rs : List Run} {k : IntKind} {n : Nat} {rs : List (IntKind × Nat)} (e : Rs.map (fun R => (R.kind, R.size)) = (k, n) :: rs) : ∃ g Rs', Rs = ⟨k, n, g⟩ :: Rs' ∧ Rs'.map (fun R => (R.kind, R.size)) = rs := by
  cases Rs with
  | nil => simp at e
  | cons R Rs' =>
    simp only [List.map_cons, List.cons.injEq, Prod.mk.injEq] at e
    obtain ⟨⟨rfl, rfl⟩, e⟩ := e
    exact ⟨R.get, Rs', rfl, e⟩
theorem run_nil {Rs : List Run} (e : Rs.map (fun R => (R.kind, R.size)) = []) : Rs = [] := by simpa using e
theorem args0 {α : Type} {a : Array α} (h : a.size = 0) : a = #[] := by simpa using h
theorem args1 {α : Type} {a : Array α} (h : a.size = 1) : ∃ x, a = #[x] := by
  obtain ⟨l⟩ := a
  match l, h with
  | [x], _ => exact ⟨x, rfl⟩
theorem args2 {α : Type} {a : Array α} (h : a.size = 2) : ∃ x y, a = #[x, y] := by
  obtain ⟨l⟩ := a
  match l, h with
  | [x, y], _ => exact ⟨x, y, rfl⟩
theorem args3 {α : Type} {a : Array α} (h : a.size = 3) : ∃ x y z, a = #[x, y, z] := by
  obtain ⟨l⟩ := a
  match l, h with
  | [x, y, z], _ => exact ⟨x, y, z, rfl⟩
theorem args4 {α : Type} {a : Array α} (h : a.size = 4) : ∃ x y z u, a = #[x, y, z, u] := by
  obtain ⟨l⟩ := a
  match l, h with
  | [x, y, z, u], _ => exact ⟨x, y, z, u, rfl⟩
theorem FnOk.below {P : Program} {f : FuncId} {args : List AV} {v : AV} {sh' : Heap} (h : FnOk P f args [] v sh') {W : World} {ys : List Value} (hg : Gl.ok W) (ha : all2 (AV.rel (fun _ => none)) args ys) :
    Calls P f ys.toArray W fun e w' => ∃ γ y, e = .returned y ∧ v.rel γ y ∧ Below W.heap.size W w' := by
  have h0 : HRel (fun _ => none) [] W := by
    refine ⟨?_, ?_, ?_, fun _ _ => rfl, hg, ?_⟩ <;> (intros; simp_all)
  refine (h.run (fun _ => none) W ys h0 ha).mono ?_
  rintro e w' ⟨γ, y, he, _, hv, _, hx, _⟩
  refine ⟨γ, y, he, hv, hx.os, hx.tape, hx.output, hx.size, fun k hk => hx.obj k hk ?_⟩
  rintro a _ ⟨b, x, L, hb, _⟩
  simp at hb
end Go.Proofs.YtoeailachidcdaaGreatDoor.Hg
