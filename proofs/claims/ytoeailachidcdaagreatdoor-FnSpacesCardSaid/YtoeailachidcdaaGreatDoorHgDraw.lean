import Derived.Test.YtoeailachidcdaaGreatDoorHgBelow
import Derived.Orders
namespace Go.Proofs.YtoeailachidcdaaGreatDoor.Hg
set_option linter.unusedVariables false
set_option linter.unusedSimpArgs false
set_option linter.unusedSectionVars false
open Go Go.RowKit
variable [Gl : Glob]
section
variable {ρ : Type}
def binds (e : Edge) : Bool := Region.binds .any e
def maskOf (as : List Nat) : List Edge → Nat
  | [] => 0
  | e :: r => if binds e = true then (2 ^ e.on ||| as.getD e.on 0) ||| maskOf as r else maskOf as r
def ancs : List Nat → List Oper → Option (List Nat)
  | as, [] => some as
  | as, o :: r => if (o.after.toList.all fun e => !binds e || decide (e.on < as.length)) = true then ancs (as ++ [maskOf as o.after.toList]) r else none
def fillFrom (t : Nat) : Nat → List Oper → Option Nat
  | _, [] => none
  | i, o :: r => (match o.dst with
    | some d => if d = t then some i else fillFrom t (i + 1) r
    | none => fillFrom t (i + 1) r)
def fillOk (ops : List Oper) : Nat → List Oper → Bool
  | _, [] => true
  | i, o :: r => (match o.dst with
    | some d => decide (fillFrom d 0 ops = some i)
    | none => true) && fillOk ops (i + 1) r
def clip (n : Nat) (v : AV) : AV := if belowAV n v = true then v else .any
def slotAt (ops : List Oper) (as : List Nat) (vals : List AV) (n i t : Nat) (u : AV) : AV :=
  match fillFrom t 0 ops with
  | none => clip n u
  | some j => if j < i ∧ Nat.testBit (as.getD i 0) j = true then clip n (vals.getD j .any) else if j = i ∨ Nat.testBit (as.getD j 0) i = true then clip n u else .any
def slotsAt (ops : List Oper) (as : List Nat) (vals : List AV) (n i : Nat) : Nat → List AV → List AV
  | _, [] => []
  | t, u :: r => slotAt ops as vals n i t u :: slotsAt ops as vals n i (t + 1) r
def slotE (ops : List Oper) (vals : List AV) (t : Nat) (u : AV) : AV := match fillFrom t 0 ops with | none => u | some j => vals.getD j .any
def slotsEnd (ops : List Oper) (vals : List AV) : Nat → List AV → List AV
  | _, [] => []
  | t, u :: r => slotE ops vals t u :: slotsEnd ops vals (t + 1) r
def visB (n0 : Nat) (own : List Nat) (m : Nat) (b : Nat) : Bool := decide (b < n0) || Nat.testBit m (own.getD (b - n0) 0)
def deadB : Blk := ⟨false, .dead⟩
def roB (n : Nat) (x : Blk) : Blk := if blkBelow n x = true then ⟨false, x.c⟩ else deadB
def maskF (p : Nat → Bool) (f : Blk → Blk) : Nat → Heap → Heap
  | _, [] => []
  | b, x :: r => (if p b = true then f x else deadB) :: maskF p f (b + 1) r
def isW (E : Env) (o : Oper) : Bool :=
  match o.op with
  | .store .. => true
  | .call ⟨.value (.func g), _, _⟩ => !(E.wr g).all (! ·)
  | .call ⟨.builtin .append, _, _⟩ => true
  | _ => false
def writers (E : Env) : Nat → List Oper → List Nat
  | _, [] => []
  | i, o :: r => if isW E o = true then i :: writers E (i + 1) r else writers E (i + 1) r
def ordB (as ws : List Nat) (i : Nat) : Bool := ws.all fun w => w == i || Nat.testBit (as.getD i 0) w || Nat.testBit (as.getD w 0) i
structure Reg where
  ops : List Oper
  as : List Nat
  ws : List Nat
  n0 : Nat
  base : List AV
def Reg.gOk (R : Reg) (j : Nat) : Bool := match gdst R.ops j with | some d => decide (d < R.base.length) | none => false
def Reg.st (R : Reg) (vals : List AV) (i : Nat) (n : Nat) (h : Heap) : St := ⟨slotsAt R.ops R.as vals n i 0 R.base, h⟩
def Reg.seen (R : Reg) (own : List Nat) (i : Nat) (h : Heap) : Heap := maskF (visB R.n0 own (R.as.getD i 0)) (roB h.length) 0 h
def Reg.raw (R : Reg) (V : List AV) (i : Nat) : Operand → AV
  | .tmp t => (match fillFrom t 0 R.ops with
    | some j => if j < i ∧ Nat.testBit (R.as.getD i 0) j = true then V.getD j .any else R.base.getD t .any
    | none => R.base.getD t .any)
  | _ => .any
def Reg.fl (R : Reg) (V : List AV) (i : Nat) : Op → List Nat
  | .load _ a => (avIds (R.raw V i a)).filter fun b => decide (b < R.n0)
  | _ => []
def Reg.floated (R : Reg) (V : List AV) (i : Nat) (op : Op) (h : Heap) : Heap := maskF (fun b => (R.fl V i op).contains b) (roB h.length) 0 h
def calmB (as ws : List Nat) (tc : List (Option (List Nat))) (i b : Nat) : Bool := ws.all fun w => Nat.testBit (as.getD w 0) i || (match tc.getD w none with | some T => !T.contains b | none => false)
def calmAll (E : Env) (R : Reg) (V : List AV) (tc : List (Option (List Nat))) : Nat → List Oper → Bool
  | _, [] => true
  | i, o :: r => (isW E o || ordB R.as R.ws i || (R.fl V i o.op).all fun b => calmB R.as R.ws tc i b) && calmAll E R V tc (i + 1) r
def Reg.tch (E : Env) (R : Reg) (V : List AV) (i : Nat) (o : Oper) (h : Heap) : Option (List Nat) := if isW E o = true then touchIds (R.st V i h.length h) o.op else some []
def xdrawOp (E : Env) (ents : List FuncId) (R : Reg) (i : Nat) (o : Oper) (vals : List AV) (own : List Nat) (h : Heap) (k : AV → List Nat → Heap → Option ρ) : Option ρ :=
  if isW E o = true then
    (if ordB R.as R.ws i = true then xstep E ents (R.st vals i h.length h) o.op fun v h' => if h.length ≤ h'.length then k v (own ++ List.replicate (h'.length - h.length) i) h' else none else none)
  else if ordB R.as R.ws i = true then
    (if writesB E (R.st vals i h.length (R.seen own i h)) o.op = false then
      xstep E ents (R.st vals i h.length (R.seen own i h)) o.op fun v h' => (match h'.drop h.length with
        | [] => k v own h
        | b :: nb => if (b :: nb).all (·.rw) = true then k v (own ++ List.replicate (nb.length + 1) i) (h ++ b :: nb) else none)
    else none)
  else
    (if writesB E (R.st vals i h.length (R.floated vals i o.op h)) o.op = false then
      xstep E ents (R.st vals i h.length (R.floated vals i o.op h)) o.op fun v h' => if h'.length = h.length then k v own h else none
    else none)
def xdraw (E : Env) (ents : List FuncId) (R : Reg) : List Oper → Nat → List AV → List Nat → List (Option (List Nat)) → Heap → (St → Option ρ) → Option ρ
  | [], _, vals, _, tc, h, k => if calmAll E R vals tc 0 R.ops = true then k ⟨slotsEnd R.ops vals 0 R.base, h⟩ else none
  | o :: r, i, vals, own, tc, h, k => (match o.guard with
    | none => xdrawOp E ents R i o vals own h fun v own' h' => xdraw E ents R r (i + 1) (vals ++ [v]) own' (tc ++ [R.tch E vals i o h]) h' k
    | some (j, want) => if j < i ∧ Nat.testBit (R.as.getD i 0) j = true ∧ R.gOk j = true then (match vals[j]? with
        | some (.bool b) =>
          if b = true then
            (if want = true then xdrawOp E ents R i o (vals.set j (.bool true)) own h fun v own' h' => xdraw E ents R r (i + 1) (vals.set j (.bool true) ++ [v]) own' (tc ++ [R.tch E (vals.set j (.bool true)) i o h]) h' k
             else xdraw E ents R r (i + 1) (vals.set j (.bool true) ++ [.tup []]) own (tc ++ [some []]) h k)
          else
            (if want = true then xdraw E ents R r (i + 1) (vals.set j (.bool false) ++ [.tup []]) own (tc ++ [some []]) h k
             else xdrawOp E ents R i o (vals.set j (.bool false)) own h fun v own' h' => xdraw E ents R r (i + 1) (vals.set j (.bool false) ++ [v]) own' (tc ++ [R.tch E (vals.set j (.bool false)) i o h]) h' k)
        | some (.tup []) => xdraw E ents R r (i + 1) (vals ++ [.tup []]) own (tc ++ [some []]) h k
        | _ => none) else none)
def xregion (E : Env) (ents : List FuncId) (ops : List Oper) (s : St) (k : St → Option ρ) : Option ρ :=
  match ancs [] ops with
  | none => none
  | some as => if fillOk ops 0 ops = true then xdraw E ents ⟨ops, as, writers E 0 ops, s.h.length, s.t⟩ ops 0 [] [] [] s.h k else none
def StepFact (E : Env) (o : Oper) (s : St) (v : AV) (h' : Heap) : Prop := ∀ (β : Names) (a : Act) (w : World), Rel β s a w → StepOk E β s o a w v h'
structure Ran (E : Env) (R : Reg) (V : List AV) (own : List Nat) (tc : List (Option (List Nat))) (i : Nat) (o : Oper) (h h1 : Heap) : Prop where
  guard : ∀ j want, o.guard = some (j, want) → j < i ∧ Nat.testBit (R.as.getD i 0) j = true ∧ R.gOk j = true ∧ V[j]? = some (.bool want)
  kind : ∃ v, V[i]? = some v ∧
    ((isW E o = true ∧ ordB R.as R.ws i = true ∧ StepFact E o (R.st V i h.length h) v h1 ∧ h.length ≤ h1.length ∧ ∀ T, tc[i]? = some (some T) → ∀ b, b < h.length → b ∉ T → h1[b]? = h[b]?) ∨
     (isW E o = false ∧ ordB R.as R.ws i = true ∧ ∃ nb, StepFact E o (R.st V i h.length (R.seen own i h)) v (R.seen own i h ++ nb) ∧ (∀ x ∈ nb, x.rw = true) ∧ h1 = h ++ nb) ∨
     (isW E o = false ∧ ordB R.as R.ws i = false ∧ StepFact E o (R.st V i h.length (R.floated V i o.op h)) v (R.floated V i o.op h) ∧ h1 = h))
structure Skipped (E : Env) (R : Reg) (V : List AV) (i : Nat) (o : Oper) (h h1 : Heap) : Prop where
  guard : ∃ j want, o.guard = some (j, want) ∧ j < i ∧ Nat.testBit (R.as.getD i 0) j = true ∧ R.gOk j = true ∧ (V[j]? = some (.bool (!want)) ∨ V[j]? = some (.tup []))
  val : V[i]? = some (.tup [])
  mem : h1 = h
def agree (V vals : List AV) : Prop := ∀ j, j < vals.length → V[j]? = vals[j]?
theorem slotAt_agree {ops : List Oper} {as : List Nat} {V vals : List AV} {n i t : Nat} {u : AV} (h : agree V vals) (hi : i ≤ vals.length) : slotAt ops as vals n i t u = slotAt ops as V n i t u := by
  unfold slotAt
  split
  · rfl
  · rename_i j _
    split
    · rename_i hj
      have : vals.getD j .any = V.getD j .any := by
        rw [List.getD_eq_getElem?_getD, List.getD_eq_getElem?_getD, h j (by omega)]
      rw [this]
    · rfl
theorem slotsAt_agree {ops : List Oper} {as : List Nat} {V vals : List AV} {n i : Nat} (h : agree V vals) (hi : i ≤ vals.length) : ∀ (t : Nat) (base : List AV), slotsAt ops as vals n i t base = slotsAt ops as V n i t base
  | _, [] => rfl
  | t, u :: r => by simp only [slotsAt]; rw [slotAt_agree h hi, slotsAt_agree h hi (t + 1) r]
theorem st_agree {R : Reg} {V vals : List AV} {n i : Nat} {h : Heap} (ha : agree V vals) (hi : i ≤ vals.length) : R.st vals i n h = R.st V i n h := by
  unfold Reg.st; rw [slotsAt_agree ha hi]
theorem raw_agree {R : Reg} {V vals : List AV} {i : Nat} (h : agree V vals) (hi : i ≤ vals.length) (a : Operand) : R.raw vals i a = R.raw V i a := by
  cases a with
  | tmp t =>
    simp only [Reg.raw]
    split
    · rename_i j _
      split
      · rename_i hj
        rw [List.getD_eq_getElem?_getD, List.getD_eq_getElem?_getD, h j (by omega)]
      · rfl
    · rfl
  | const v => rfl
  | func f => rfl
  | global g => rfl
theorem fl_agree {R : Reg} {V vals : List AV} {i : Nat} (h : agree V vals) (hi : i ≤ vals.length) (op : Op) : R.fl vals i op = R.fl V i op := by
  unfold Reg.fl
  split
  · rw [raw_agree h hi]
  · rfl
theorem maskF_congr {p q : Nat → Bool} {f : Blk → Blk} : ∀ {b : Nat} {h : Heap}, (∀ c, b ≤ c → c < b + h.length → p c = q c) → maskF p f b h = maskF q f b h
  | _, [], _ => rfl
  | b, x :: r, hp => by
    simp only [maskF]
    rw [hp b (Nat.le_refl _) (by simp), maskF_congr (b := b + 1) (h := r) fun c h1 h2 => hp c (by omega) (by simp; omega)]
theorem maskF_length {p : Nat → Bool} {f : Blk → Blk} : ∀ {b : Nat} {h : Heap}, (maskF p f b h).length = h.length
  | _, [] => rfl
  | b, x :: r => by simp [maskF, maskF_length (b := b + 1) (h := r)]
theorem maskF_get {p : Nat → Bool} {f : Blk → Blk} : ∀ {b : Nat} {h : Heap} {i : Nat}, (maskF p f b h)[i]? = (h[i]?).map fun x => if p (b + i) = true then f x else deadB
  | _, [], i => by simp [maskF]
  | b, x :: r, 0 => by simp [maskF]
  | b, x :: r, i + 1 => by
    simp only [maskF, List.getElem?_cons_succ]
    rw [maskF_get (b := b + 1) (h := r) (i := i), show b + 1 + i = b + (i + 1) by omega]
theorem seen_agree {R : Reg} {own own' : List Nat} {i : Nat} {h : Heap} (hp : ∀ j, j < own.length → own'[j]? = own[j]?) (hl : h.length = R.n0 + own.length) : R.seen own i h = R.seen own' i h := by
  unfold Reg.seen
  refine maskF_congr fun c _ hc => ?_
  unfold visB
  by_cases h0 : c < R.n0
  · simp [h0]
  · have : own.getD (c - R.n0) 0 = own'.getD (c - R.n0) 0 := by
      rw [List.getD_eq_getElem?_getD, List.getD_eq_getElem?_getD, hp _ (by omega)]
    rw [this]
theorem floated_agree {R : Reg} {V vals : List AV} {i : Nat} (h : agree V vals) (hi : i ≤ vals.length) (op : Op) (hp : Heap) : R.floated vals i op hp = R.floated V i op hp := by
  unfold Reg.floated; rw [fl_agree h hi]
theorem floated_length {R : Reg} {V : List AV} {i : Nat} {op : Op} {h : Heap} : (R.floated V i op h).length = h.length := maskF_length
theorem seen_length {R : Reg} {own : List Nat} {i : Nat} {h : Heap} : (R.seen own i h).length = h.length := maskF_length
structure Told (E : Env) (R : Reg) (V : List AV) (own : List Nat) (tc : List (Option (List Nat))) (H : Nat → Heap) (i : Nat) : Prop where
  op : ∀ (j : Nat) (o : Oper), i ≤ j → R.ops[j]? = some o → Ran E R V own tc j o (H j) (H (j + 1)) ∨ Skipped E R V j o (H j) (H (j + 1))
  len : ∀ j, i ≤ j → j < R.ops.length → (H j).length ≤ (H (j + 1)).length
  owns : ∀ j b, i ≤ j → j < R.ops.length → (H j).length ≤ b → b < (H (j + 1)).length → own[b - R.n0]? = some j
  size : (H R.ops.length).length = R.n0 + own.length
theorem own_ext {own own' : List Nat} {n : Nat} {i : Nat} (h : ∀ j, j < (own ++ List.replicate n i).length → own'[j]? = (own ++ List.replicate n i)[j]?) : (∀ j, j < own.length → own'[j]? = own[j]?) ∧ ∀ j, own.length ≤ j → j < own.length + n → own'[j]? = some i := by
  refine ⟨fun j hj => ?_, fun j h1 h2 => ?_⟩
  · rw [h j (by simp; omega), List.getElem?_append_left hj]
  · rw [h j (by simp; omega), List.getElem?_append_right h1, List.getElem?_replicate]
    simp; omega
theorem Told.cons {E : Env} {R : Reg} {V : List AV} {own own' : List Nat} {tc : List (Option (List Nat))} {H : Nat → Heap} {i n : Nat} {o : Oper} {h : Heap} (ho : R.ops[i]? = some o) (t : Told E R V own' tc H (i + 1)) (hl : h.length = R.n0 + own.length) (hn : (H (i + 1)).length = h.length + n)
    (hp : ∀ j, j < (own ++ List.replicate n i).length → own'[j]? = (own ++ List.replicate n i)[j]?) (hr : Ran E R V own tc i o h (H (i + 1)) ∨ Skipped E R V i o h (H (i + 1))) :
    Told E R V own' tc (fun j => if j = i then h else H j) i where
  op := by
    intro j p hj hp'
    by_cases hji : j = i
    · subst hji
      rw [ho] at hp'; cases hp'
      simp only [if_true, show ¬ (j + 1 = j) by omega, if_false]
      refine hr.imp (fun r => ⟨r.guard, ?_⟩) id
      obtain ⟨v, h1, h2⟩ := r.kind
      refine ⟨v, h1, ?_⟩
      rw [← seen_agree (own_ext hp).1 hl]
      exact h2
    · simp only [hji, if_false, show ¬ (j + 1 = i) by omega]
      exact t.op j p (by omega) hp'
  len := by
    intro j hj hlt
    by_cases hji : j = i
    · subst hji
      simp only [if_true, show ¬ (j + 1 = j) by omega, if_false]
      omega
    · simp only [hji, if_false, show ¬ (j + 1 = i) by omega]
      exact t.len j (by omega) hlt
  owns := by
    intro j b hj hlt h1 h2
    by_cases hji : j = i
    · subst hji
      simp only [if_true, show ¬ (j + 1 = j) by omega, if_false] at h1 h2
      exact (own_ext hp).2 _ (by omega) (by omega)
    · simp only [hji, if_false, show ¬ (j + 1 = i) by omega] at h1 h2
      exact t.owns j b (by omega) hlt h1 h2
  size := by
    have hlt : i < R.ops.length := (List.getElem?_eq_some_iff.1 ho).1
    simp only [show ¬ (R.ops.length = i) by omega, if_false]
    exact t.size
theorem xdrawOp_ok {E : Env} {ents : List FuncId} (hE : EnvOk E ents) {R : Reg} {i : Nat} {o : Oper} {vals : List AV} {own : List Nat} {h : Heap} {k : AV → List Nat → Heap → Option ρ} {r : ρ} (hi : vals.length = i) (hx : xdrawOp E ents R i o vals own h k = some r) :
    ∃ v h1 n, k v (own ++ List.replicate n i) h1 = some r ∧ h1.length = h.length + n ∧ ∀ V tc, agree V (vals ++ [v]) → tc[i]? = some (R.tch E vals i o h) →
      (∀ j want, o.guard = some (j, want) → j < i ∧ Nat.testBit (R.as.getD i 0) j = true ∧ R.gOk j = true ∧ V[j]? = some (.bool want)) → Ran E R V own tc i o h h1 := by
  obtain ⟨dst, op, ty, pos, af, g⟩ := o
  unfold xdrawOp at hx
  have hag : ∀ {V : List AV} {v : AV}, agree V (vals ++ [v]) → agree V vals ∧ V[i]? = some v := by
    intro V v ha
    refine ⟨fun j hj => ?_, ?_⟩
    · rw [ha j (by simp; omega), List.getElem?_append_left hj]
    · rw [ha i (by simp; omega), List.getElem?_append_right (by omega)]; simp [hi]
  split at hx
  · rename_i hw
    split at hx
    · rename_i ho
      obtain ⟨v, h1, h2, ⟨_, hst⟩, h4⟩ := xstep_ok hE hx
      split at h2
      · rename_i hlen
        refine ⟨v, h1, _, h2, by omega, fun V tc ha htc hg => ⟨hg, v, (hag ha).2, .inl ⟨hw, ho, ?_, hlen, ?_⟩⟩⟩
        case refine_2 =>
          intro T hT
          rw [hT] at htc
          simp only [Option.some.injEq, Reg.tch, hw, if_true] at htc
          exact hst T htc.symm
        intro β a w hr
        rw [← st_agree (hag ha).1 (by omega)] at hr ⊢
        have := h4 dst ty pos af g β a w hr
        simpa only [Reg.st] using this
      · cases h2
    · cases hx
  · rename_i hw
    have hw' : isW E ⟨dst, op, ty, pos, af, g⟩ = false := by simpa using hw
    split at hx
    · rename_i ho
      split at hx
      · rename_i hwb
        obtain ⟨v, h1, h2, h3, h4⟩ := xstep_ok hE hx
        obtain ⟨nb, rfl⟩ := h3.1 hwb
        have hd : List.drop h.length ((R.st vals i h.length (R.seen own i h)).h ++ nb) = nb := by
          simp only [Reg.st]
          rw [List.drop_left' seen_length]
        rw [hd] at h2
        have h2 : (nb.all (·.rw)) = true ∧ k v (own ++ List.replicate nb.length i) (h ++ nb) = some r := by
          cases nb with
          | nil => exact ⟨rfl, by simpa using h2⟩
          | cons b nb =>
            simp only at h2
            split at h2
            · rename_i hall; exact ⟨hall, h2⟩
            · cases h2
        obtain ⟨hall, h2⟩ := h2
        refine ⟨v, _, _, h2, by simp, fun V tc ha _ hg => ⟨hg, v, (hag ha).2, .inr (.inl ⟨hw', ho, nb, ?_, ?_, rfl⟩)⟩⟩
        · intro β a w hr
          rw [← st_agree (hag ha).1 (by omega)] at hr ⊢
          have := h4 dst ty pos af g β a w hr
          simpa only [Reg.st] using this
        · intro x hx
          exact List.all_eq_true.1 hall x hx
      · cases hx
    · split at hx
      · rename_i hwb
        obtain ⟨v, h1, h2, h3, h4⟩ := xstep_ok hE hx
        obtain ⟨nb, rfl⟩ := h3.1 hwb
        split at h2
        · rename_i hlen
          have hnb : nb = [] := by
            simp only [Reg.st, List.length_append, floated_length] at hlen
            exact List.eq_nil_of_length_eq_zero (by omega)
          subst hnb
          refine ⟨v, h, 0, by simpa using h2, by simp, fun V tc ha _ hg => ⟨hg, v, (hag ha).2, .inr (.inr ⟨hw', by simpa using ‹¬ ordB R.as R.ws i = true›, ?_, rfl⟩)⟩⟩
          intro β a w hr
          rw [← floated_agree (hag ha).1 (by omega)] at hr ⊢
          rw [← st_agree (hag ha).1 (by omega)] at hr ⊢
          have := h4 dst ty pos af g β a w hr
          simpa only [Reg.st, List.append_nil] using this
        · cases h2
      · cases hx
theorem xdraw_ok {E : Env} {ents : List FuncId} (hE : EnvOk E ents) {R : Reg} : ∀ {l : List Oper} {i : Nat} {vals : List AV} {own : List Nat} {tc : List (Option (List Nat))} {h : Heap} {k : St → Option ρ} {r : ρ}, (∀ j, l[j]? = R.ops[i + j]?) → i + l.length = R.ops.length → vals.length = i → tc.length = i → h.length = R.n0 + own.length →
    xdraw E ents R l i vals own tc h k = some r →
    ∃ (V : List AV) (own' : List Nat) (tc' : List (Option (List Nat))) (H : Nat → Heap), k ⟨slotsEnd R.ops V 0 R.base, H R.ops.length⟩ = some r ∧ agree V vals ∧ V.length = R.ops.length ∧ (∀ j, j < own.length → own'[j]? = own[j]?) ∧ (∀ j, j < tc.length → tc'[j]? = tc[j]?) ∧ H i = h ∧ Told E R V own' tc' H i ∧ calmAll E R V tc' 0 R.ops = true
  | [], i, vals, own, tc, h, k, r, _, hn, hv, htl, hl, hx => by
    simp only [xdraw] at hx
    have hn' : i = R.ops.length := by simpa using hn
    split at hx
    case isFalse => cases hx
    rename_i hcalm
    refine ⟨vals, own, tc, fun _ => h, hx, fun _ _ => rfl, by omega, fun _ _ => rfl, fun _ _ => rfl, rfl, ⟨?_, ?_, ?_, hl⟩, hcalm⟩
    · intro j o hj ho
      have := (List.getElem?_eq_some_iff.1 ho).1
      omega
    · intro j hj hlt; omega
    · intro j b hj hlt; omega
  | o :: l, i, vals, own, tc, h, k, r, hops, hn, hv, htl, hl, hx => by
    have ho : R.ops[i]? = some o := by have := hops 0; simp at this; exact this.symm
    have hops' : ∀ j, l[j]? = R.ops[i + 1 + j]? := fun j => by
      have := hops (j + 1); rw [show i + (j + 1) = i + 1 + j by omega] at this; simpa using this
    have hn' : i + 1 + l.length = R.ops.length := by simp at hn; omega
    have run : ∀ (vs : List AV), vs.length = i → (∀ j want, o.guard = some (j, want) → j < i ∧ Nat.testBit (R.as.getD i 0) j = true ∧ R.gOk j = true ∧ vs[j]? = some (.bool want)) →
        xdrawOp E ents R i o vs own h (fun v own' h' => xdraw E ents R l (i + 1) (vs ++ [v]) own' (tc ++ [R.tch E vs i o h]) h' k) = some r →
        ∃ (V : List AV) (own' : List Nat) (tc' : List (Option (List Nat))) (H : Nat → Heap), k ⟨slotsEnd R.ops V 0 R.base, H R.ops.length⟩ = some r ∧ agree V vs ∧ V.length = R.ops.length ∧ (∀ j, j < own.length → own'[j]? = own[j]?) ∧ (∀ j, j < tc.length → tc'[j]? = tc[j]?) ∧ H i = h ∧ Told E R V own' tc' H i ∧ calmAll E R V tc' 0 R.ops = true := by
      intro vs hvs hg hx
      obtain ⟨v, h1, n, h2, h3, h4⟩ := xdrawOp_ok hE hvs hx
      obtain ⟨V, own', tc', H, g1, g2, g3, g4, gt, g5, g6, g7⟩ := xdraw_ok hE hops' hn' (by simp [hvs]) (by simp [htl]) (by simp; omega) h2
      have hti : tc'[i]? = some (R.tch E vs i o h) := by rw [gt i (by simp; omega), List.getElem?_append_right (by omega)]; simp [htl]
      have htp : ∀ j, j < tc.length → tc'[j]? = tc[j]? := fun j hj => by rw [gt j (by simp; omega), List.getElem?_append_left hj]
      have hran := h4 V tc' g2 hti fun j want hgj => by
        obtain ⟨e1, e2, e3, e4⟩ := hg j want hgj
        refine ⟨e1, e2, e3, ?_⟩
        rw [g2 j (by simp; omega), List.getElem?_append_left (by omega)]
        exact e4
      refine ⟨V, own', tc', _, ?_, ?_, g3, (own_ext g4).1, htp, ?_, Told.cons ho g6 hl (by rw [g5]; exact h3) g4 (.inl (by rw [g5]; exact hran)), g7⟩
      · have hlt : i < R.ops.length := (List.getElem?_eq_some_iff.1 ho).1
        simp only [show ¬ (R.ops.length = i) by omega, if_false]
        exact g1
      · intro j hj
        rw [g2 j (by simp; omega), List.getElem?_append_left hj]
      · simp
    have skip : ∀ (vs : List AV), vs.length = i → (∃ j want, o.guard = some (j, want) ∧ j < i ∧ Nat.testBit (R.as.getD i 0) j = true ∧ R.gOk j = true ∧ (vs[j]? = some (.bool (!want)) ∨ vs[j]? = some (.tup []))) →
        xdraw E ents R l (i + 1) (vs ++ [.tup []]) own (tc ++ [some []]) h k = some r →
        ∃ (V : List AV) (own' : List Nat) (tc' : List (Option (List Nat))) (H : Nat → Heap), k ⟨slotsEnd R.ops V 0 R.base, H R.ops.length⟩ = some r ∧ agree V vs ∧ V.length = R.ops.length ∧ (∀ j, j < own.length → own'[j]? = own[j]?) ∧ (∀ j, j < tc.length → tc'[j]? = tc[j]?) ∧ H i = h ∧ Told E R V own' tc' H i ∧ calmAll E R V tc' 0 R.ops = true := by
      intro vs hvs hg hx
      obtain ⟨V, own', tc', H, g1, g2, g3, g4, gt, g5, g6, g7⟩ := xdraw_ok hE hops' hn' (by simp [hvs]) (by simp [htl]) (by omega) hx
      have htp : ∀ j, j < tc.length → tc'[j]? = tc[j]? := fun j hj => by rw [gt j (by simp; omega), List.getElem?_append_left hj]
      refine ⟨V, own', tc', _, ?_, ?_, g3, g4, htp, ?_, Told.cons (n := 0) ho g6 hl (by rw [g5]; rfl) (by simpa using g4) (.inr ⟨?_, ?_, g5⟩), g7⟩
      · have hlt : i < R.ops.length := (List.getElem?_eq_some_iff.1 ho).1
        simp only [show ¬ (R.ops.length = i) by omega, if_false]
        exact g1
      · intro j hj
        rw [g2 j (by simp; omega), List.getElem?_append_left hj]
      · simp
      · obtain ⟨j, want, e1, e2, e3, e4, e5⟩ := hg
        refine ⟨j, want, e1, e2, e3, e4, ?_⟩
        rw [g2 j (by simp; omega), List.getElem?_append_left (by omega)]
        exact e5
      · rw [g2 i (by simp; omega), List.getElem?_append_right (by omega)]; simp [hvs]
    simp only [xdraw] at hx
    split at hx
    · rename_i hg
      exact run vals hv (fun j want e => by rw [hg] at e; cases e) hx
    · rename_i j want hg
      split at hx
      case isFalse => cases hx
      rename_i hj
      obtain ⟨j1, j2, j3⟩ := hj
      split at hx
      · rename_i b hb
        have same : ∀ c, b = c → vals.set j (.bool c) = vals := by
          intro c hc
          subst hc
          apply List.ext_getElem?
          intro t
          by_cases ht : t = j
          · subst ht
            rw [List.getElem?_set_self (List.getElem?_eq_some_iff.1 hb).1, hb]
          · rw [List.getElem?_set_ne (fun e => ht e.symm)]
        split at hx
        · rename_i hbt
          rw [same true hbt] at hx
          split at hx
          · rename_i hwt
            exact run vals hv (fun j' w' e => by rw [hg] at e; cases e; exact ⟨j1, j2, j3, by rw [hb, hbt, hwt]⟩) hx
          · rename_i hwt
            exact skip vals hv ⟨j, want, hg, j1, j2, j3, .inl (by rw [hb, hbt, show want = false by simpa using hwt]; rfl)⟩ hx
        · rename_i hbt
          have hbf : b = false := by simpa using hbt
          rw [same false hbf] at hx
          split at hx
          · rename_i hwt
            exact skip vals hv ⟨j, want, hg, j1, j2, j3, .inl (by rw [hb, hbf, hwt]; rfl)⟩ hx
          · rename_i hwt
            exact run vals hv (fun j' w' e => by rw [hg] at e; cases e; exact ⟨j1, j2, j3, by rw [hb, hbf, show want = false by simpa using hwt]⟩) hx
      · rename_i hb
        exact skip vals hv ⟨j, want, hg, j1, j2, j3, .inr hb⟩ hx
      · cases hx
end
end Go.Proofs.YtoeailachidcdaaGreatDoor.Hg
