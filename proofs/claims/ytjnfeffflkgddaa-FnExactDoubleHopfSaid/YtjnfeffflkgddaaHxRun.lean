/- A step of a region on a state; a region in the order of its text. -/
import Derived.Test.YtjnfeffflkgddaaHxStep
namespace Go.Proofs.Ytjnfeffflkgddaa.Hx
set_option linter.unusedVariables false
set_option linter.unusedSimpArgs false
open Go Go.RowKit

section
variable {ρ : Type}

def entersB (P : Program) (f : FuncId) : Bool :=
  match P.funcs[f]? with
  | some fn => fn.name != "runtime.NumGoroutine" && fn.body.isSome
  | none => false

structure EnvOk (E : Env) (ents : List FuncId) : Prop where
  lays : laysOk E.P E.lays = true
  ents : ents.all (entersB E.P) = true
  spec : SpecOK E
  mixed : E.P.follows .mixedOrders = true

def xstep (E : Env) (ents : List FuncId) (s : St) (op : Op) (k : AV → Heap → Option ρ) : Option ρ :=
  match op with
  | .store t a x => (match xstore E s.h t (s.ev a) (s.ev x) with | some h' => k .any h' | none => none)
  | .call ⟨.value f, args, _⟩ => (match s.ev f with
    | .fn g m caps => if ents.contains g = true then xcall E g ((caps.take m).map .sptr ++ (args.toList.map s.ev ++ (caps.drop m).map .sptr)) s.h k else none
    | _ => none)
  | op => xq E s op (fun v nb => match nb with | [] => k v s.h | b :: nb' => k v (s.h ++ b :: nb'))

/-- what a step leaves, in a world -/
def StepOk (E : Env) (β : Names) (s : St) (o : Oper) (a : Act) (w : World) (v : AV) (h' : Heap) : Prop :=
  ∀ (K : Act → World → Prop) (Q : Exit → Act → World → Prop), (∀ y w' γ, v.rel γ y → After β γ s.h h' w w' → K (a.put o.dst y) w') → o.wp E.P a w K Q

theorem after_quiet {β γ : Names} {h nb : Heap} {w w' : World} (hr : HRel β h w) (h1 : NewOk β γ h.length nb w w') (h2 : Below w.heap.size w w') : After β γ h (h ++ nb) w w' where
  len := by simp
  le := h1.le hr.fresh
  old := h1.old
  rel := hr.grow h1 h2
  ext := .of_below h2
  mine := by
    rintro a ⟨b, x, L, i, hx, hrw, hL, hi, e1, e2⟩
    rcases Nat.lt_or_ge b h.length with hlt | hge
    · rw [List.getElem?_append_left hlt] at hx
      rw [h1.old b hlt] at hL
      exact .inl ⟨b, x, L, i, hx, hrw, hL, hi, e1, e2⟩
    · rw [List.getElem?_append_right hge] at hx
      obtain ⟨M, hM, _, hsz⟩ := h1.blk _ x hx
      rw [show h.length + (b - h.length) = b by omega, hL] at hM
      cases hM
      exact .inr (by rw [e1]; exact hsz)

theorem after_wrote {β : Names} {h h' : Heap} {w w' : World} (h1 : Wrote β h h' w w') : After β β h h' w w' where
  len := by rw [h1.2.2.2]; exact Nat.le_refl _
  le := Names.le_refl β
  old := fun _ _ => rfl
  rel := h1.1
  ext := h1.2.1
  mine := fun a ha => .inl (h1.2.2.1 a ha)

theorem wp_of_next {P : Program} {o : Oper} {a : Act} {w : World} {K : Act → World → Prop} {Q : Exit → Act → World → Prop} {y : Value} {w' : World} (h : (execOp a.eval o).run P w = .ok (.value y) w') (hk : K (a.put o.dst y) w') : o.wp P a w K Q := by
  unfold Oper.wp
  rw [h]
  exact hk

theorem all2_append {α γ : Type} {R : α → γ → Prop} : ∀ {as bs : List α} {cs ds : List γ}, all2 R as cs → all2 R bs ds → all2 R (as ++ bs) (cs ++ ds)
  | [], _, [], _, _, h => h
  | _ :: _, _, _ :: _, _, ⟨h1, h2⟩, h => ⟨h1, all2_append h2 h⟩
  | [], _, _ :: _, _, h, _ => h.elim
  | _ :: _, _, [], _, h, _ => h.elim

theorem args_rel {β : Names} {s : St} {a : Act} {w : World} (hr : Rel β s a w) : ∀ xs : List Operand, all2 (AV.rel β) (xs.map s.ev) (xs.map a.eval)
  | [] => trivial
  | x :: xs => ⟨hr.ev x, args_rel hr xs⟩

theorem caps_rel {β : Names} : ∀ {cs : List (List (Nat × Nat))} {vs : List Value}, all2 (ptrRel β) cs vs → all2 (AV.rel β) (cs.map .sptr) vs
  | [], [], _ => trivial
  | _ :: _, _ :: _, ⟨h1, h2⟩ => ⟨h1, caps_rel h2⟩
  | [], _ :: _, h => h.elim
  | _ :: _, [], h => h.elim

/-- the operations that write what was there -/
def writesB (E : Env) (s : St) : Op → Bool
  | .store .. => true
  | .call ⟨.value f, _, _⟩ => (match s.ev f with | .fn g _ _ => !(E.wr g).all (! ·) | _ => true)
  | _ => false

/-- the blocks of an address -/
def avIds : AV → List Nat
  | .ptr b _ _ => [b]
  | .sptr bs => bs.map (·.1)
  | _ => []

theorem scatter_other {c : Nat} : ∀ {bs : List (Nat × Nat)} {rs : List Run} {h h' : Heap}, scatter h bs rs = some h' → c ∉ bs.map (·.1) → h'[c]? = h[c]?
  | [], [], h, h', hs, _ => by simp [scatter] at hs; rw [hs]
  | [], _ :: _, _, _, hs, _ => by simp [scatter] at hs
  | _ :: _, [], _, _, hs, _ => by simp [scatter] at hs
  | (b, n) :: bs, r :: rs, h, h', hs, hc => by
    simp only [List.map_cons, List.mem_cons, not_or] at hc
    simp only [scatter] at hs
    split at hs
    · split at hs
      · rw [scatter_other hs hc.2, List.getElem?_set_ne (fun e => hc.1 e.symm)]
      · cases hs
    · cases hs

theorem xstore_other {E : Env} {h h' : Heap} {t : TypeId} {x v : AV} (hx : xstore E h t x v = some h') {c : Nat} (hc : c ∉ avIds x) : h'[c]? = h[c]? := by
  unfold xstore at hx
  cases x <;> simp only [avIds, List.mem_singleton] at hc
  case ptr b o m =>
    have e : ∀ z : Blk, (h.set b z)[c]? = h[c]? := fun z => List.getElem?_set_ne (fun e => hc e.symm)
    repeat' split at hx
    all_goals try simp_all
    all_goals (rw [← hx]; exact e _)
  case sptr bs =>
    have e : ∀ (b n : Nat) (z : Blk), bs = [(b, n)] → (h.set b z)[c]? = h[c]? := fun b n z hb => by
      subst hb
      exact List.getElem?_set_ne (fun e => hc (by simp [e]))
    repeat' split at hx
    all_goals try simp_all
    all_goals first
      | exact scatter_other hx (by simpa using hc)
      | (rw [← hx]; exact e _ _ _ rfl rfl)
  all_goals (repeat' split at hx) <;> simp_all

theorem xstep_ok {E : Env} {ents : List FuncId} (hE : EnvOk E ents) {s : St} {op : Op} {k : AV → Heap → Option ρ} {r : ρ} (hx : xstep E ents s op k = some r) :
    ∃ v h', k v h' = some r ∧ ((writesB E s op = false → ∃ nb, h' = s.h ++ nb) ∧ (∀ t a x, op = .store t a x → ∀ b, b ∉ avIds (s.ev a) → h'[b]? = s.h[b]?)) ∧ ∀ (dst : Option Tmp) (ty : TypeId) (pos : String) (af : Array Edge) (g : Option (Nat × Bool)) (β : Names) (a : Act) (w : World), Rel β s a w → StepOk E β s ⟨dst, op, ty, pos, af, g⟩ a w v h' := by
  unfold xstep at hx
  split at hx
  · rename_i t x y
    split at hx
    · rename_i h' hs
      refine ⟨_, _, hx, ⟨fun h => by simp [writesB] at h, fun t' a' x' e b hb => by cases e; exact xstore_other hs hb⟩, fun dst ty pos af g β a w hr K Q hK => ?_⟩
      obtain ⟨w', h1, h2⟩ := xstore_ok hE.lays hs hr.heap (hr.ev x) (hr.ev y)
      unfold Oper.wp
      have : (execOp a.eval ⟨dst, .store t x y, ty, pos, af, g⟩).run E.P w = .ok .skip w' := by simp [execOp, h1]
      rw [this]
      exact hK undef w' β trivial (after_wrote h2)
    · cases hx
  · rename_i f args ts
    split at hx
    · rename_i g m caps hf
      split at hx
      · rename_i hen
        obtain ⟨v, h', h1, h2, h3⟩ := xcall_ok hE.spec hx
        refine ⟨v, h', h1, ⟨fun hw => h2 (by simp [writesB, hf] at hw; simpa using hw), fun t' a' x' e => by cases e⟩, fun dst ty pos af gd β a w hr K Q hK => ?_⟩
        have hfv := hr.ev f
        rw [hf] at hfv
        obtain ⟨vs, hv1, hv2⟩ := hfv
        have hent : entersB E.P g = true := by
          have := List.all_eq_true.1 hE.ents g (by simpa using hen)
          exact this
        unfold entersB at hent
        split at hent
        · rename_i fn hfn
          simp only [Bool.and_eq_true, bne_iff_ne, ne_eq] at hent
          have hrun : (execOp a.eval ⟨dst, .call ⟨.value f, args, ts⟩, ty, pos, af, gd⟩).run E.P w = .ok (.enter g (vs.take m ++ ((args.toList.map a.eval) ++ vs.drop m)).toArray) w := by
            have hb : fn.body.isNone = false := by simpa using hent.2
            have hn : (fn.name == "runtime.NumGoroutine") = false := by simpa using hent.1
            simp only [execOp, resolve, hv1, Deferred.ofValue, invoke, Sem.run_bind, Sem.run_pure, Result.andThen_ok, callFunc, run_program, hfn, hn, hb]
            simp
          unfold Oper.wp
          rw [hrun]
          refine (h3 β w _ hr.heap (all2_append (caps_rel (all2_take m hv2)) (all2_append (args_rel hr _) (caps_rel (all2_drop m hv2))))).mono ?_
          rintro e w' ⟨γ, y, rfl, e1, e2⟩
          exact hK y w' γ e1 e2
        · cases hent
      · cases hx
    · cases hx
  · obtain ⟨v, nb, h1, h2⟩ := xq_ok hE.lays hx
    have h1 : k v (s.h ++ nb) = some r := by
      cases nb with
      | nil => simpa using h1
      | cons _ _ => exact h1
    refine ⟨v, _, h1, ⟨fun _ => ⟨nb, rfl⟩, fun t' a' x' e => ?_⟩, fun dst ty pos af g β a w hr K Q hK => ?_⟩
    · rename_i hne _ _; exact absurd e (by first | exact hne _ _ _ | (rename_i hne2; exact hne2 _ _ _))
    obtain ⟨y, w', γ, e1, e2, e3, e4⟩ := h2 dst ty pos af g β a w hr
    exact wp_of_next e1 (hK y w' γ e2 (after_quiet hr.heap e3 e4))

/-! one region in the order of its text -/

def setSlot (t : List AV) (dst : Option Tmp) (v : AV) : List AV := match dst with | some d => t.set d v | none => t

theorem Rel.put {β γ : Names} {s : St} {a : Act} {w w' : World} (r : Rel β s a w) (hle : β.le γ) {dst : Option Tmp} {v : AV} {y : Value} (hv : v.rel γ y) {h' : Heap} (hh : HRel γ h' w') : Rel γ ⟨setSlot s.t dst v, h'⟩ (a.put dst y) w' where
  len := by
    have := r.len
    cases dst <;> simp [setSlot, Act.put, this]
  val := by
    intro i u hu
    cases dst with
    | none => exact AV.rel_le hle (r.val i u hu)
    | some d =>
      simp only [setSlot] at hu
      have hlen := r.len
      by_cases hid : i = d
      · subst hid
        have hlt : i < s.t.length := by
          have := (List.getElem?_eq_some_iff.1 hu).1
          simpa using this
        rw [List.getElem?_set_self hlt] at hu
        obtain rfl : v = u := by simpa using hu
        have : (a.put (some i) y).tmps.getD i undef = y := by
          simp only [Act.put, Array.getD_eq_getD_getElem?]
          rw [Array.getElem?_setIfInBounds_self]
          simp [hlen, hlt]
        rw [this]; exact hv
      · rw [List.getElem?_set_ne (fun e => hid e.symm)] at hu
        have : (a.put (some d) y).tmps.getD i undef = a.tmps.getD i undef := by
          simp only [Act.put, Array.getD_eq_getD_getElem?]
          rw [Array.getElem?_setIfInBounds_ne (fun e => hid e.symm)]
        rw [this]
        exact AV.rel_le hle (r.val i u hu)
  defers := by have := r.defers; cases dst <;> simpa [Act.put] using this
  heap := hh

def gdst (ops : List Oper) (j : Nat) : Option Tmp := (ops[j]?).bind (·.dst)

def xops (E : Env) (ents : List FuncId) (all : List Oper) : List Oper → St → (St → Option ρ) → Option ρ
  | [], s, k => k s
  | o :: r, s, k => match o.guard with
    | none => xstep E ents s o.op fun v h' => xops E ents all r ⟨setSlot s.t o.dst v, h'⟩ k
    | some (j, want) => (match gdst all j with
      | none => none
      | some d => (match s.t[d]? with
        | some (.bool b) =>
          if b = true then
            (if want = true then xstep E ents ⟨s.t.set d (.bool true), s.h⟩ o.op fun v h' => xops E ents all r ⟨setSlot (s.t.set d (.bool true)) o.dst v, h'⟩ k
             else xops E ents all r ⟨setSlot (s.t.set d (.bool true)) o.dst (.tup []), s.h⟩ k)
          else
            (if want = true then xops E ents all r ⟨setSlot (s.t.set d (.bool false)) o.dst (.tup []), s.h⟩ k
             else xstep E ents ⟨s.t.set d (.bool false), s.h⟩ o.op fun v h' => xops E ents all r ⟨setSlot (s.t.set d (.bool false)) o.dst v, h'⟩ k)
        | some (.tup []) => xops E ents all r ⟨setSlot s.t o.dst (.tup []), s.h⟩ k
        | _ => none))

/-- from one state to another, over a world -/
structure Goes (m : Nat) (β γ : Names) (h h' : Heap) (w w' : World) : Prop where
  old : m ≤ h.length → ∀ b, b < m → γ b = β b
  len : m ≤ h.length → m ≤ h'.length
  ext : Ext (Mine β h) w w'
  mine : ∀ a, Mine γ h' a → Mine β h a ∨ w.heap.size ≤ a.block

theorem Goes.refl (m : Nat) (β : Names) (h : Heap) (w : World) : Goes m β β h h w w := ⟨fun _ _ _ => rfl, fun h => h, Ext.refl _ _, fun _ h => .inl h⟩

theorem Goes.trans {m : Nat} {α β γ : Names} {h h' h'' : Heap} {w w' w'' : World} (a : Goes m α β h h' w w') (b : Goes m β γ h' h'' w' w'') : Goes m α γ h h'' w w'' where
  old := fun hm c hc => (b.old (a.len hm) c hc).trans (a.old hm c hc)
  len := fun hm => b.len (a.len hm)
  ext := a.ext.trans b.ext a.mine
  mine := fun x hx => by
    rcases b.mine x hx with h1 | h1
    · exact a.mine x h1
    · exact .inr (Nat.le_trans a.ext.size h1)

theorem After.goes {β γ : Names} {h h' : Heap} {w w' : World} (a : After β γ h h' w w') (m : Nat) : Goes m β γ h h' w w' := ⟨fun hm b hb => a.old b (by omega), fun hm => Nat.le_trans hm a.len, a.ext, a.mine⟩

theorem same_bool {β : Names} {s : St} {a : Act} {w : World} (r : Rel β s a w) {d : Nat} {b : Bool} (h : s.t[d]? = some (.bool b)) {c : Bool} (hb : b = c) : Rel β ⟨s.t.set d (.bool c), s.h⟩ a w := by
  subst hb
  have : s.t.set d (.bool b) = s.t := by
    apply List.ext_getElem?
    intro i
    by_cases hi : i = d
    · subst hi
      rw [List.getElem?_set_self (List.getElem?_eq_some_iff.1 h).1, h]
    · rw [List.getElem?_set_ne (fun e => hi e.symm)]
  rw [this]
  exact r

theorem wanted_of {β : Names} {all : List Oper} {s : St} {a : Act} {w : World} (r : Rel β s a w) {o : Oper} {j : Nat} {want : Bool} (hg : o.guard = some (j, want)) {d : Tmp} (hd : gdst all j = some d) {b : Bool} (hb : s.t[d]? = some (.bool b)) :
    Region.wanted o (yielded all.toArray a.tmps) = (b == want) := by
  have hv : AV.rel β (.bool b) (a.tmps.getD d undef) := r.val d _ hb
  have hlt : d < a.tmps.size := by rw [r.len]; exact (List.getElem?_eq_some_iff.1 hb).1
  have hval : a.tmps[d]? = some (.bool b) := by
    have : a.tmps.getD d undef = .bool b := hv
    rw [Array.getD_eq_getD_getElem?, Array.getElem?_eq_getElem hlt] at this
    rw [Array.getElem?_eq_getElem hlt]
    simpa using this
  unfold gdst at hd
  simp only [Region.wanted, hg, yielded, List.getElem?_toArray, hd, Option.bind_some, hval]
  cases b <;> cases want <;> rfl

theorem wanted_undef {β : Names} {all : List Oper} {s : St} {a : Act} {w : World} (r : Rel β s a w) {o : Oper} {j : Nat} {want : Bool} (hg : o.guard = some (j, want)) {d : Tmp} (hd : gdst all j = some d) (hb : s.t[d]? = some (.tup [])) :
    Region.wanted o (yielded all.toArray a.tmps) = false := by
  obtain ⟨xs, hx, h2⟩ : AV.rel β (.tup []) (a.tmps.getD d undef) := r.val d _ hb
  cases xs with
  | cons _ _ => exact h2.elim
  | nil =>
    have hlt : d < a.tmps.size := by rw [r.len]; exact (List.getElem?_eq_some_iff.1 hb).1
    have hval : a.tmps[d]? = some (.tuple #[]) := by
      rw [Array.getD_eq_getD_getElem?, Array.getElem?_eq_getElem hlt] at hx
      rw [Array.getElem?_eq_getElem hlt]
      simpa using hx
    unfold gdst at hd
    simp only [Region.wanted, hg, yielded, List.getElem?_toArray, hd, Option.bind_some, hval]
    cases want <;> rfl

theorem xops_ok {E : Env} {ents : List FuncId} (hE : EnvOk E ents) (m : Nat) {all : List Oper} : ∀ {l : List Oper} {n : Nat} {s : St} {k : St → Option ρ} {r : ρ}, (∀ i, l[i]? = all[n + i]?) → n + l.length = all.length → xops E ents all l s k = some r →
    ∃ s', k s' = some r ∧ ∀ (β : Names) (a : Act) (w : World) (Q : Exit → Act → World → Prop), Rel β s a w → (∀ a' w' γ, Rel γ s' a' w' → Goes m β γ s.h s'.h w w' → Q .normal a' w') → wpOps E.P all.toArray Q (List.range' n l.length) a w
  | [], n, s, k, r, _, _, h => ⟨s, h, fun β a w Q hr hQ => hQ a w β hr (Goes.refl _ _ _ _)⟩
  | o :: l, n, s, k, r, hl, hn, h => by
    have ho : all.toArray[n]? = some o := by
      have := hl 0; simp at this; simp [← this]
    have hl' : ∀ i, l[i]? = all[n + 1 + i]? := fun i => by
      have := hl (i + 1); rw [show n + (i + 1) = n + 1 + i by omega] at this; simpa using this
    have hn' : n + 1 + l.length = all.length := by simp at hn; omega
    -- what remains, behind the step
    have run : ∀ (s0 : St), xstep E ents s0 o.op (fun v h' => xops E ents all l ⟨setSlot s0.t o.dst v, h'⟩ k) = some r →
        ∃ s', k s' = some r ∧ ∀ (β : Names) (a : Act) (w : World) (Q : Exit → Act → World → Prop), Rel β s0 a w → Region.wanted o (yielded all.toArray a.tmps) = true → (∀ a' w' γ, Rel γ s' a' w' → Goes m β γ s0.h s'.h w w' → Q .normal a' w') → wpOps E.P all.toArray Q (n :: List.range' (n + 1) l.length) a w := by
      intro s0 hs
      obtain ⟨v, h', h1, _, h2⟩ := xstep_ok hE hs
      obtain ⟨s', h3, h4⟩ := xops_ok hE m hl' hn' h1
      refine ⟨s', h3, fun β a w Q hr hw hQ => ?_⟩
      rw [wpOps_cons]
      unfold wpOp
      rw [ho]
      simp only [hw, if_true]
      refine .inl ?_
      obtain ⟨dst, op, ty, pos, af, g⟩ := o
      refine h2 dst ty pos af g β a w hr _ Q fun y w' γ hv hA => ?_
      refine h4 γ _ w' Q (hr.put hA.le hv hA.rel) fun a'' w'' δ hr'' hg'' => hQ a'' w'' δ hr'' ((hA.goes m).trans hg'')
    have skip : ∀ (s0 : St), xops E ents all l ⟨setSlot s0.t o.dst (.tup []), s0.h⟩ k = some r →
        ∃ s', k s' = some r ∧ ∀ (β : Names) (a : Act) (w : World) (Q : Exit → Act → World → Prop), Rel β s0 a w → Region.wanted o (yielded all.toArray a.tmps) = false → (∀ a' w' γ, Rel γ s' a' w' → Goes m β γ s0.h s'.h w w' → Q .normal a' w') → wpOps E.P all.toArray Q (n :: List.range' (n + 1) l.length) a w := by
      intro s0 hs
      obtain ⟨s', h3, h4⟩ := xops_ok hE m hl' hn' hs
      refine ⟨s', h3, fun β a w Q hr hw hQ => ?_⟩
      rw [wpOps_cons]
      unfold wpOp
      rw [ho]
      simp only [hw, Bool.false_eq_true, if_false]
      exact h4 β _ w Q (hr.put (Names.le_refl _) (v := .tup []) (y := undef) ⟨[], rfl, trivial⟩ hr.heap) hQ
    simp only [List.length_cons, List.range'_succ]
    simp only [xops] at h
    split at h
    · rename_i hg
      obtain ⟨s', h1, h2⟩ := run s h
      exact ⟨s', h1, fun β a w Q hr hQ => h2 β a w Q hr (by simp [Region.wanted, hg]) hQ⟩
    · rename_i j want hg
      split at h
      · cases h
      · rename_i d hd
        split at h
        · rename_i b hb
          split at h
          · rename_i hbt
            split at h
            · rename_i hwt
              obtain ⟨s', h1, h2⟩ := run _ h
              exact ⟨s', h1, fun β a w Q hr hQ => h2 β a w Q (same_bool hr hb hbt) (by rw [wanted_of hr hg hd hb, hbt, hwt]; rfl) hQ⟩
            · rename_i hwt
              obtain ⟨s', h1, h2⟩ := skip ⟨s.t.set d (.bool true), s.h⟩ h
              exact ⟨s', h1, fun β a w Q hr hQ => h2 β a w Q (same_bool hr hb hbt) (by rw [wanted_of hr hg hd hb, hbt, show want = false by simpa using hwt]; rfl) hQ⟩
          · rename_i hbt
            have hbf : b = false := by simpa using hbt
            split at h
            · rename_i hwt
              obtain ⟨s', h1, h2⟩ := skip ⟨s.t.set d (.bool false), s.h⟩ h
              exact ⟨s', h1, fun β a w Q hr hQ => h2 β a w Q (same_bool hr hb hbf) (by rw [wanted_of hr hg hd hb, hbf, hwt]; rfl) hQ⟩
            · rename_i hwt
              obtain ⟨s', h1, h2⟩ := run _ h
              exact ⟨s', h1, fun β a w Q hr hQ => h2 β a w Q (same_bool hr hb hbf) (by rw [wanted_of hr hg hd hb, hbf, show want = false by simpa using hwt]; rfl) hQ⟩
        · rename_i hb
          obtain ⟨s', h1, h2⟩ := skip s h
          exact ⟨s', h1, fun β a w Q hr hQ => h2 β a w Q hr (wanted_undef hr hg hd hb) hQ⟩
        · cases h

end
end Go.Proofs.Ytjnfeffflkgddaa.Hx
