/- A function's body as a contract: what its code does with a small memory. -/
import Derived.Test.YtjnfeffflkgddaaHxCode
namespace Go.Proofs.Ytjnfeffflkgddaa.Hx
set_option linter.unusedVariables false
set_option linter.unusedSimpArgs false
open Go Go.RowKit

section
variable {ρ : Type}

/-! what is handed back: the memory that came in (what may not be written: as it came), and the new blocks that the result names -/

def ids1 : AV → Option (List Nat)
  | .ptr b _ _ => some [b]
  | .sptr bs => some (bs.map (·.1))
  | .slice b _ _ _ _ => some [b]
  | .fn _ _ caps => some (caps.flatMap fun c => c.map (·.1))
  | .tup _ => none
  | _ => some []

def idsList : List AV → Option (List Nat)
  | [] => some []
  | v :: r => match ids1 v, idsList r with
    | some a, some b => some (a ++ b)
    | _, _ => none

/-- the new blocks that are named, each once, in their order -/
def freshIds (m : Nat) : List Nat → List Nat → List Nat
  | [], acc => acc
  | b :: r, acc => if b < m then freshIds m r acc else if acc.contains b = true then freshIds m r acc else freshIds m r (acc ++ [b])

def posOf (b : Nat) : List Nat → Nat → Option Nat
  | [], _ => none
  | c :: r, i => if c = b then some i else posOf b r (i + 1)

def reId (m : Nat) (fs : List Nat) (b : Nat) : Option Nat := if b < m then some b else posOf b fs m

def rePtrs (m : Nat) (fs : List Nat) : List (Nat × Nat) → Option (List (Nat × Nat))
  | [] => some []
  | (b, n) :: r => match reId m fs b, rePtrs m fs r with
    | some c, some r' => some ((c, n) :: r')
    | _, _ => none

def re1 (m : Nat) (fs : List Nat) : AV → Option AV
  | .ptr b o n => (match reId m fs b with | some c => some (.ptr c o n) | none => none)
  | .sptr bs => (match rePtrs m fs bs with | some x => some (.sptr x) | none => none)
  | .slice b o len cap esz => (match reId m fs b with | some c => some (.slice c o len cap esz) | none => none)
  | .fn _ _ _ => none
  | .tup _ => none
  | v => some v

def reList (m : Nat) (fs : List Nat) : List AV → Option (List AV)
  | [] => some []
  | v :: r => match re1 m fs v, reList m fs r with
    | some a, some b => some (a :: b)
    | _, _ => none

def freeB : Blk → Bool
  | ⟨_, .ints ..⟩ => true
  | ⟨_, .avs vs⟩ => (match idsList vs with | some [] => true | _ => false)
  | _ => false

def newBlks (h : Heap) : List Nat → Option (List Blk)
  | [] => some []
  | b :: r => match h[b]?, newBlks h r with
    | some x, some r' => if freeB x = true ∧ x.rw = true then some (x :: r') else none
    | _, _ => none

def keptBlks (m : Nat) : List Blk → Heap → Option (List Blk)
  | [], _ => some []
  | _ :: _, [] => none
  | x :: r, y :: h => match keptBlks m r h with
    | none => none
    | some r' => (match x.c with
      | .dead => none
      | _ => if x.rw = true then (if y.rw = true ∧ blkBelow m y = true then (match y.c with | .dead => none | _ => some (y :: r')) else none) else some (x :: r'))

def resAV (E : Env) (s : St) : ResultVar → Option AV
  | .tmp t => some (s.t.getD t .any)
  | .cell a t => xload E s.h t (s.t.getD a .any)

def resList (E : Env) (s : St) : List ResultVar → Option (List AV)
  | [] => some []
  | r :: rs => match resAV E s r, resList E s rs with
    | some v, some vs => some (v :: vs)
    | _, _ => none

def nodupB : List Nat → Bool
  | [] => true
  | b :: r => !r.contains b && nodupB r

def finK (E : Env) (fn : Func) (sh : Heap) (K : AV → Heap → Option ρ) : XE → St → Option ρ
  | .exit _, _ => none
  | _, s => match resList E s fn.results.toList with
    | none => none
    | some vs => (match idsList vs with
      | none => none
      | some is => (match reList sh.length (freshIds sh.length is []) vs, newBlks s.h (freshIds sh.length is []), keptBlks sh.length sh s.h with
        | some vs', some nb, some kb => if nodupB (freshIds sh.length is []) = true ∧ (freshIds sh.length is []).all (fun b => decide (sh.length ≤ b)) = true then K (match vs' with | [v] => v | vs' => .tup vs') (kb ++ nb) else none
        | _, _, _ => none))

def xbody (E : Env) (ents : List FuncId) (kp : Keeps) (N : Nat) (fn : Func) (c : Code) (args : List AV) (sh : Heap) (K : AV → Heap → Option ρ) : Option ρ :=
  xcode E ents kp sh.length N c 0 ⟨args ++ List.replicate (fn.ntmps - args.length) .any, sh⟩ (finK E fn sh K)

/-! the names behind -/

def reNames (γ : Names) (m : Nat) (fs : List Nat) : Names := fun i => if i < m then γ i else match fs[i - m]? with | some b => γ b | none => none

theorem posOf_some {b : Nat} : ∀ {fs : List Nat} {i c : Nat}, posOf b fs i = some c → i ≤ c ∧ fs[c - i]? = some b
  | [], _, _, h => by simp [posOf] at h
  | d :: r, i, c, h => by
    simp only [posOf] at h
    split at h
    · rename_i hd
      cases h
      exact ⟨Nat.le_refl _, by simp [hd]⟩
    · obtain ⟨h1, h2⟩ := posOf_some h
      refine ⟨by omega, ?_⟩
      rw [show c - i = (c - (i + 1)) + 1 by omega]
      simpa using h2

theorem reId_ok {γ : Names} {m : Nat} {fs : List Nat} {b c : Nat} (h : reId m fs b = some c) : reNames γ m fs c = γ b := by
  unfold reId at h
  split at h
  · rename_i hb
    cases h
    unfold reNames; rw [if_pos hb]
  · obtain ⟨h1, h2⟩ := posOf_some h
    unfold reNames
    rw [if_neg (by omega), h2]

theorem rePtrs_ok {γ : Names} {m : Nat} {fs : List Nat} : ∀ {bs bs' : List (Nat × Nat)} {blk base : Nat}, rePtrs m fs bs = some bs' → chained γ blk base bs → chained (reNames γ m fs) blk base bs'
  | [], _, _, _, h, _ => by simp [rePtrs] at h; subst h; trivial
  | (b, n) :: r, bs', blk, base, h, ⟨h1, h2⟩ => by
    simp only [rePtrs] at h
    split at h
    · rename_i c r' hc hr
      cases h
      exact ⟨by rw [reId_ok hc]; exact h1, rePtrs_ok hr h2⟩
    · cases h

theorem re1_ok {γ : Names} {m : Nat} {fs : List Nat} {v v' : AV} {y : Value} (h : re1 m fs v = some v') (r : v.rel1 γ y) : v'.rel1 (reNames γ m fs) y := by
  cases v <;> simp only [re1] at h
  case ptr b o n =>
    split at h
    · rename_i c hc
      cases h
      obtain ⟨L, h1, h2⟩ := r
      exact ⟨L, by rw [reId_ok hc]; exact h1, h2⟩
    · cases h
  case sptr bs =>
    split at h
    · rename_i x hx
      cases h
      obtain ⟨h1, blk, base, h2, h3⟩ := r
      refine ⟨?_, blk, base, h2, rePtrs_ok hx h3⟩
      rintro rfl
      cases bs with
      | nil => exact h1 rfl
      | cons p r =>
        obtain ⟨b, n⟩ := p
        simp only [rePtrs] at hx
        split at hx
        · cases hx
        · cases hx
    · cases h
  case slice b o len cap esz =>
    split at h
    · rename_i c hc
      cases h
      obtain ⟨L, a, c', h1, h2⟩ := r
      exact ⟨L, a, c', by rw [reId_ok hc]; exact h1, h2⟩
    · cases h
  case fn => cases h
  case tup => cases h
  all_goals (cases h; exact r)

theorem reList_ok {γ : Names} {m : Nat} {fs : List Nat} : ∀ {vs vs' : List AV} {ys : List Value}, reList m fs vs = some vs' → all2 (AV.rel1 γ) vs ys → all2 (AV.rel1 (reNames γ m fs)) vs' ys
  | [], _, [], h, _ => by simp [reList] at h; subst h; trivial
  | v :: vs, vs', y :: ys, h, ⟨h1, h2⟩ => by
    simp only [reList] at h
    split at h
    · rename_i a b ha hb
      cases h
      exact ⟨re1_ok ha h1, reList_ok hb h2⟩
    · cases h
  | [], _, _ :: _, _, h => h.elim
  | _ :: _, _, [], _, h => h.elim

theorem free_rel1 {γ δ : Names} {v : AV} {y : Value} (h : ids1 v = some []) (r : v.rel1 γ y) (hne : v.rel1 γ y → True) : v.rel1 δ y := by
  cases v <;> simp only [ids1, Option.some.injEq] at h <;> try exact r
  case ptr => cases h
  case sptr bs =>
    obtain ⟨h1, _⟩ := r
    exact absurd (by simpa using h) h1
  case slice => cases h
  case fn f k caps =>
    obtain ⟨vs, h1, h2⟩ := r
    refine ⟨vs, h1, ?_⟩
    clear hne
    subst h1
    induction caps generalizing vs with
    | nil =>
      cases vs with
      | nil => trivial
      | cons u us => exact h2.elim
    | cons c cs ih =>
      cases vs with
      | nil => exact h2.elim
      | cons u us =>
        obtain ⟨⟨h3, _⟩, _⟩ := h2
        simp only [List.flatMap_cons, List.append_eq_nil_iff, List.map_eq_nil_iff] at h
        exact absurd h.1 h3

theorem idsList_nil : ∀ {vs : List AV}, idsList vs = some [] → ∀ v ∈ vs, ids1 v = some []
  | [], _, v, hv => by simp at hv
  | u :: vs, h, v, hv => by
    simp only [idsList] at h
    split at h
    · rename_i a b ha hb
      simp only [Option.some.injEq, List.append_eq_nil_iff] at h
      obtain ⟨rfl, rfl⟩ := h
      rcases List.mem_cons.1 hv with rfl | hv
      · exact ha
      · exact idsList_nil hb v hv
    · cases h

theorem freeB_rel {γ δ : Names} {x : Blk} {L : Loc} {w : World} (h : freeB x = true) (r : x.rel γ L w) : x.rel δ L w := by
  obtain ⟨rw, c⟩ := x
  cases c with
  | ints k n g => exact r
  | dead => trivial
  | avs vs =>
    simp only [freeB] at h
    split at h
    · rename_i hi
      simp only [Blk.rel] at r ⊢
      refine ⟨r.1, fun i v hv => ?_⟩
      obtain ⟨u, h1, h2, h3⟩ := r.2 i v hv
      exact ⟨u, h1, free_rel1 (idsList_nil hi v (List.mem_of_getElem? hv)) h2 (fun _ => trivial), h3⟩
    · cases h

theorem listBelow_at {n : Nat} : ∀ {vs : List AV}, listBelow n vs = true → ∀ v ∈ vs, below1 n v = true
  | [], _, v, hv => by simp at hv
  | u :: r, h, v, hv => by
    simp only [listBelow, Bool.and_eq_true] at h
    rcases List.mem_cons.1 hv with rfl | hv
    · exact h.1
    · exact listBelow_at h.2 v hv

theorem below_rel {γ δ : Names} {m : Nat} {x : Blk} {L : Loc} {w : World} (h : blkBelow m x = true) (r : x.rel γ L w) (hd : ∀ c, c < m → δ c = γ c) : x.rel δ L w := by
  obtain ⟨rw, c⟩ := x
  cases c with
  | ints k n g => exact r
  | dead => trivial
  | avs vs =>
    simp only [blkBelow] at h
    simp only [Blk.rel] at r ⊢
    refine ⟨r.1, fun i v hv => ?_⟩
    obtain ⟨u, h1, h2, h3⟩ := r.2 i v hv
    refine ⟨u, h1, AV.rel1_le ?_ (below1_ok (listBelow_at h v (List.mem_of_getElem? hv)) h2), h3⟩
    intro c L hc
    unfold cutN at hc
    split at hc
    · rw [hd c (by assumption)]; exact hc
    · cases hc

theorem newBlks_at {h : Heap} : ∀ {fs : List Nat} {nb : List Blk}, newBlks h fs = some nb → nb.length = fs.length ∧ ∀ (i : Nat) (x : Blk), nb[i]? = some x → ∃ b, fs[i]? = some b ∧ h[b]? = some x ∧ freeB x = true ∧ x.rw = true
  | [], nb, hn => by simp [newBlks] at hn; subst hn; exact ⟨rfl, by simp⟩
  | b :: r, nb, hn => by
    simp only [newBlks] at hn
    split at hn
    · rename_i x r' hx hr
      split at hn
      · rename_i hf
        cases hn
        obtain ⟨h1, h2⟩ := newBlks_at hr
        refine ⟨by simp [h1], fun i y hy => ?_⟩
        cases i with
        | zero => simp at hy; subst hy; exact ⟨b, rfl, hx, hf.1, hf.2⟩
        | succ i => obtain ⟨c, e1, e2⟩ := h2 i y (by simpa using hy); exact ⟨c, by simpa using e1, e2⟩
      · cases hn
    · cases hn

theorem keptBlks_at {m : Nat} : ∀ {sh : List Blk} {h : Heap} {kb : List Blk}, keptBlks m sh h = some kb → kb.length = sh.length ∧ sh.length ≤ h.length ∧ ∀ (i : Nat) (x : Blk), sh[i]? = some x → x.c ≠ .dead ∧
    (x.rw = false → kb[i]? = some x) ∧ (x.rw = true → ∃ y, h[i]? = some y ∧ kb[i]? = some y ∧ y.rw = true ∧ y.c ≠ .dead ∧ blkBelow m y = true)
  | [], h, kb, hk => by simp [keptBlks] at hk; subst hk; exact ⟨rfl, by simp, by simp⟩
  | _ :: _, [], _, hk => by simp [keptBlks] at hk
  | x :: r, y :: h, kb, hk => by
    simp only [keptBlks] at hk
    split at hk
    · cases hk
    · rename_i r' hr
      obtain ⟨h1, h2, h3⟩ := keptBlks_at hr
      split at hk
      · cases hk
      · rename_i hxd
        split at hk
        · rename_i hx
          split at hk
          · rename_i hy
            obtain ⟨hy, hbl⟩ := hy
            split at hk
            · cases hk
            · rename_i hd
              cases hk
              refine ⟨by simp [h1], by simpa using h2, fun i z hz => ?_⟩
              cases i with
              | zero =>
                simp at hz; subst hz
                exact ⟨fun e => hxd e, fun h => (by rw [hx] at h; cases h), fun _ => ⟨y, rfl, rfl, hy, fun e => hd e, hbl⟩⟩
              | succ i => simpa using h3 i z (by simpa using hz)
          · cases hk
        · rename_i hx
          cases hk
          refine ⟨by simp [h1], by simpa using h2, fun i z hz => ?_⟩
          cases i with
          | zero =>
            simp at hz; subst hz
            exact ⟨fun e => hxd e, fun _ => rfl, fun h => absurd h hx⟩
          | succ i => simpa using h3 i z (by simpa using hz)

theorem nodupB_at : ∀ {fs : List Nat}, nodupB fs = true → ∀ {i j b : Nat}, fs[i]? = some b → fs[j]? = some b → i = j
  | [], _, _, _, _, h, _ => by simp at h
  | c :: r, h, i, j, b, hi, hj => by
    simp only [nodupB, Bool.and_eq_true, Bool.not_eq_true', List.contains_eq_mem, decide_eq_false_iff_not] at h
    cases i with
    | zero =>
      cases j with
      | zero => rfl
      | succ j =>
        simp at hi; subst hi
        exact absurd (List.mem_of_getElem? (by simpa using hj)) h.1
    | succ i =>
      cases j with
      | zero =>
        simp at hj; subst hj
        exact absurd (List.mem_of_getElem? (by simpa using hi)) h.1
      | succ j =>
        have := nodupB_at h.2 (i := i) (j := j) (by simpa using hi) (by simpa using hj)
        omega

theorem run_results {E : Env} (hE : laysOk E.P E.lays = true) {β : Names} {s : St} {a : Act} {w : World} (hr : Rel β s a w) : ∀ {rs : List ResultVar} {vs : List AV}, resList E s rs = some vs → (idsList vs).isSome = true →
    ∃ ys : List Value, (rs.mapM fun (r : ResultVar) => match r with | .tmp t => (pure (a.tmps.getD t undef) : Sem Value) | .cell p t => do loadVar t (← asAddr (a.tmps.getD p undef))).run E.P w = .ok ys w ∧ all2 (AV.rel1 β) vs ys
  | [], vs, h, _ => by simp [resList] at h; subst h; exact ⟨[], by simp, trivial⟩
  | r :: rs, vs, h, hi => by
    simp only [resList] at h
    split at h
    · rename_i v vs' hv hvs
      cases h
      simp only [idsList] at hi
      split at hi
      · rename_i is js h1 h2
        obtain ⟨ys, h3, h4⟩ := run_results hE hr hvs (by rw [h2]; rfl)
        have hrel1 : ∀ y, v.rel β y → v.rel1 β y := by
          intro y hy
          cases v <;> first | exact hy | simp [ids1] at h1
        cases r with
        | tmp t =>
          simp only [resAV, Option.some.injEq] at hv
          subst hv
          have := hr.ev (.tmp t)
          refine ⟨a.tmps.getD t undef :: ys, ?_, hrel1 _ this, h4⟩
          simp only [List.mapM_cons, Sem.run_bind, Sem.run_pure, Result.andThen_ok, h3]
        | cell p t =>
          simp only [resAV] at hv
          have hp := hr.ev (.tmp p)
          obtain ⟨u, h5, h6⟩ := xload_ok hE hr.heap hv hp
          refine ⟨u :: ys, ?_, hrel1 _ h6, h4⟩
          have h7 : (do loadVar t (← asAddr (a.tmps.getD p undef)) : Sem Value).run E.P w = .ok u w := by
            simp only [Instr.loadAt, Sem.run_bind] at h5 ⊢
            have : (asAddr (a.tmps.getD p undef)).run E.P w = (Instr.sureAddr (a.eval (.tmp p))).run E.P w := by
              have e : a.eval (.tmp p) = a.tmps.getD p undef := rfl
              rw [e] at h5 ⊢
              cases hv2 : a.tmps.getD p undef with
              | pointer q =>
                cases q with
                | some q => rfl
                | none => rw [hv2] at h5; simp [Instr.sureAddr, Result.andThen] at h5
              | _ => rw [hv2] at h5; simp [Instr.sureAddr, Result.andThen] at h5
            rw [this]; exact h5
          simp only [List.mapM_cons]
          rw [Sem.run_bind, h7, Result.andThen_ok, Sem.run_bind, h3, Result.andThen_ok]
          rfl
      · cases hi
    · cases h

theorem fn_ok {E : Env} {ents : List FuncId} (hE : EnvOk E ents) {kp : Keeps} {N : Nat} {f : FuncId} {fn : Func} {c : Code} (hf : E.P.funcs[f]? = some fn) (hb : fn.body = some c) {args : List AV} {sh : Heap} {K : AV → Heap → Option ρ} {r : ρ}
    (h : xbody E ents kp N fn c args sh K = some r) : ∃ v sh', K v sh' = some r ∧ FnOk E.P f args sh v sh' := by
  unfold xbody at h
  obtain ⟨e, s', h1, h2⟩ := xcode_ok hE h
  have key : ∃ (vs : List AV) (is : List Nat) (vs' nb kb : _) , (e = .normal ∨ e = .ret) ∧ resList E s' fn.results.toList = some vs ∧ idsList vs = some is ∧ reList sh.length (freshIds sh.length is []) vs = some vs' ∧ newBlks s'.h (freshIds sh.length is []) = some nb ∧ keptBlks sh.length sh s'.h = some kb ∧
      nodupB (freshIds sh.length is []) = true ∧ (freshIds sh.length is []).all (fun b => decide (sh.length ≤ b)) = true ∧ K (match vs' with | [v] => v | vs' => .tup vs') (kb ++ nb) = some r := by
    cases e with
    | exit j => simp [finK] at h1
    | normal =>
      simp only [finK] at h1
      split at h1
      · cases h1
      · rename_i vs hvs
        split at h1
        · cases h1
        · rename_i is his
          split at h1
          · rename_i vs' nb kb q1 q2 q3
            split at h1
            · rename_i q4
              exact ⟨vs, is, vs', nb, kb, .inl rfl, hvs, his, q1, q2, q3, q4.1, q4.2, h1⟩
            · cases h1
          · cases h1
    | ret =>
      simp only [finK] at h1
      split at h1
      · cases h1
      · rename_i vs hvs
        split at h1
        · cases h1
        · rename_i is his
          split at h1
          · rename_i vs' nb kb q1 q2 q3
            split at h1
            · rename_i q4
              exact ⟨vs, is, vs', nb, kb, .inr rfl, hvs, his, q1, q2, q3, q4.1, q4.2, h1⟩
            · cases h1
          · cases h1
  obtain ⟨vs, is, vs', nb, kb, he, hvs, his, hre, hnb, hkb, hnd, hge, hK⟩ := key
  obtain ⟨k1, k2, k3⟩ := keptBlks_at hkb
  obtain ⟨n1, n2⟩ := newBlks_at hnb
  have hgeat : ∀ {i b : Nat}, (freshIds sh.length is [])[i]? = some b → sh.length ≤ b := by
    intro i b hi
    have := List.all_eq_true.1 hge b (List.mem_of_getElem? hi)
    simpa using this
  refine ⟨_, _, hK, ⟨by rw [List.length_append, k1]; omega, ?_, ?_, ?_⟩⟩
  · intro i x hx hro
    rw [List.getElem?_append_left (by rw [k1]; exact (List.getElem?_eq_some_iff.1 hx).1)]
    exact (k3 i x hx).2.1 hro
  · intro i x hx hrw
    rw [List.getElem?_append_left (by rw [k1]; exact (List.getElem?_eq_some_iff.1 hx).1)]
    obtain ⟨y, _, e2, e3, e4, _⟩ := (k3 i x hx).2.2 hrw
    exact ⟨y, e2, e3, e4⟩
  · intro β w ys hh hys
    have hlen : ys.length = args.length := (all2_length hys).symm
    refine calls_of_wp hf hb ?_
    have hrel : Rel β ⟨args ++ List.replicate (fn.ntmps - args.length) .any, sh⟩ { tmps := ys.toArray ++ Array.replicate (fn.ntmps - ys.toArray.size) undef, defers := [] } w := by
      refine ⟨by simp [hlen], fun i v hv => ?_, rfl, hh⟩
      rcases Nat.lt_or_ge i args.length with hlt | hge'
      · rw [List.getElem?_append_left hlt] at hv
        obtain ⟨y, hy1, hy2⟩ := all2_get hys hv
        have hlt' : i < ys.length := by omega
        have : (ys.toArray ++ Array.replicate (fn.ntmps - ys.toArray.size) undef).getD i undef = y := by
          rw [Array.getD_eq_getD_getElem?, Array.getElem?_append_left (by simpa using hlt')]
          simp [hy1]
        simp only
        rw [this]; exact hy2
      · rw [List.getElem?_append_right hge'] at hv
        have := List.getElem?_replicate (n := fn.ntmps - args.length) (a := AV.any) (i := i - args.length)
        rw [hv] at this
        split at this
        · cases this; trivial
        · cases this
    refine h2 β _ w _ hrel fun a' w' γ hr' hg' => ?_
    obtain ⟨zs, hz1, hz2⟩ := run_results hE.lays hr' hvs (by rw [his]; rfl)
    have hres : (results fn a'.tmps).run E.P w' = .ok (if h : zs.toArray.size = 1 then zs.toArray[0] else .tuple zs.toArray) w' := by
      unfold results
      rw [Sem.run_bind]
      have : (fn.results.mapM fun (x : ResultVar) => match x with | .tmp t => (pure (a'.tmps.getD t undef) : Sem Value) | .cell p t => do loadVar t (← asAddr (a'.tmps.getD p undef))).run E.P w' = .ok zs.toArray w' := by
        rw [← Array.toArray_toList (xs := fn.results), List.mapM_toArray, Sem.run_map, hz1]
        rfl
      refine (congrArg (fun q => Result.andThen q _) this).trans ?_
      rfl
    have hold : ∀ b, b < sh.length → γ b = β b := hg'.old (Nat.le_refl _)
    have hnb2 : ∀ (c : Nat) (x : Blk) (L : Loc) {i : Nat}, (freshIds sh.length is [])[i]? = some c → s'.h[c]? = some x → γ c = some L → 0 < x.ext L → w.heap.size ≤ L.blk := by
      intro c x L i hi hx hL hpos
      have hcm := hgeat hi
      have hxrw : x.rw = true := by
        obtain ⟨y, hy⟩ : ∃ y, nb[i]? = some y := ⟨nb[i]'(by rw [n1]; exact (List.getElem?_eq_some_iff.1 hi).1), List.getElem?_eq_getElem _⟩
        obtain ⟨d, e1, e2, _, e4⟩ := n2 i y hy
        rw [hi] at e1; cases e1
        rw [hx] at e2; cases e2
        exact e4
      rcases hg'.mine (L.at 0) ⟨c, x, L, 0, hx, hxrw, hL, hpos, rfl, rfl⟩ with hm | hm
      · obtain ⟨b, x0, M, j, hx0, hx0rw, hM, hj, e1, e2⟩ := hm
        have hb' : b < sh.length := (List.getElem?_eq_some_iff.1 hx0).1
        obtain ⟨y, f1, _, f3, f4, _⟩ := (k3 b x0 hx0).2.2 hx0rw
        have hjy : j < y.ext M := by
          have := Nat.lt_of_lt_of_le hj Blk.ext_le
          rw [ext_full f4]; exact this
        exact absurd (by simp only [Loc.at] at e2; omega) (hr'.heap.disj c b x y L M (by omega) hx f1 hL (by rw [hold b hb']; exact hM) hxrw 0 j hpos hjy e1)
      · exact hm
    have hfin : a'.defers = [] ∧ ∃ v, (results fn a'.tmps).run E.P w' = .ok v w' ∧ (∃ δ y, Ending.returned v = .returned y ∧ (∀ b, b < sh.length → δ b = β b) ∧ (match vs' with | [v] => v | vs' => AV.tup vs').rel δ y ∧ HRel δ (kb ++ nb) w' ∧ Ext (Mine β sh) w w' ∧
        (∀ (b : Nat) (x : Blk) (L : Loc), sh.length ≤ b → (kb ++ nb)[b]? = some x → δ b = some L → 0 < x.ext L → w.heap.size ≤ L.blk)) := by
      refine ⟨hr'.defers, _, hres, reNames γ sh.length (freshIds sh.length is []), _, rfl, ?_, ?_, ?_, hg'.ext, ?_⟩
      · intro b hb'; unfold reNames; rw [if_pos hb']; exact hold b hb'
      · have hl2 := reList_ok hre hz2
        match vs', zs, hl2 with
        | [v], [z], ⟨q, _⟩ => exact rel_of_rel1 q
        | [], [], _ => exact ⟨[], rfl, trivial⟩
        | v1 :: v2 :: vr, z1 :: z2 :: zr, q => exact ⟨z1 :: z2 :: zr, by simp, q⟩
      · have hkat : ∀ (b : Nat) (x : Blk), b < sh.length → kb[b]? = some x → ∃ x0, sh[b]? = some x0 ∧ ((x0.rw = false ∧ x = x0) ∨ (x0.rw = true ∧ x.rw = true ∧ x.c ≠ .dead ∧ s'.h[b]? = some x ∧ blkBelow sh.length x = true)) := by
          intro b x hb' hx
          obtain ⟨x0, hx0⟩ : ∃ x0, sh[b]? = some x0 := ⟨sh[b], List.getElem?_eq_getElem hb'⟩
          refine ⟨x0, hx0, ?_⟩
          cases hrw : x0.rw with
          | false =>
            have := (k3 b x0 hx0).2.1 hrw
            rw [hx] at this
            exact .inl ⟨rfl, by simpa using this⟩
          | true =>
            obtain ⟨y, e1, e2, e3, e4, e5⟩ := (k3 b x0 hx0).2.2 hrw
            rw [hx] at e2
            obtain rfl : x = y := by simpa using e2
            exact .inr ⟨rfl, e3, e4, e1, e5⟩
        have hat : ∀ (b : Nat), b < sh.length → reNames γ sh.length (freshIds sh.length is []) b = β b := fun b hb' => by unfold reNames; rw [if_pos hb']; exact hold b hb'
        have hnat : ∀ (i : Nat) (b : Nat), (freshIds sh.length is [])[i]? = some b → reNames γ sh.length (freshIds sh.length is []) (sh.length + i) = γ b := by
          intro i b hi
          unfold reNames
          rw [if_neg (by omega), show sh.length + i - sh.length = i by omega, hi]
        have hrov : ∀ (b : Nat) (x0 : Blk) (L : Loc), sh[b]? = some x0 → x0.rw = false → β b = some L → ∀ i, i < x0.ext L → ¬ Mine β sh (L.at i) := by
          rintro b x0 L hx0 hro hL i hi ⟨c, z, M, j, hz, hzrw, hM, hj, e1, e2⟩
          have hne : c ≠ b := by
            rintro rfl
            rw [hx0] at hz; cases hz
            rw [hro] at hzrw; cases hzrw
          exact hh.disj c b z x0 M L hne hz hx0 hM hL hzrw j i hj hi e1.symm (by simp only [Loc.at] at e2; omega)
        have hnewblk : ∀ (c : Nat) (x : Blk) (L : Loc) {i : Nat}, (freshIds sh.length is [])[i]? = some c → s'.h[c]? = some x → γ c = some L → 0 < x.ext L → w.heap.size ≤ L.blk := hnb2
        refine ⟨?_, ?_, ?_⟩
        · intro b x hx hd
          rcases Nat.lt_or_ge b kb.length with hlt | hge'
          · rw [List.getElem?_append_left hlt] at hx
            obtain ⟨x0, hx0, hc⟩ := hkat b x (by omega) hx
            rw [hat b (by omega)]
            rcases hc with ⟨hro, rfl⟩ | ⟨_, _, hnd', hsx, hbel⟩
            · obtain ⟨L, hL, hrel0⟩ := hh.blk b x hx0 hd
              refine ⟨L, hL, ?_⟩
              have hrel1 : x.rel β L w' := Blk.rel_world hrel0 (fun i hi => hg'.ext.cell _ (hh.blk_lt hx0 hL hi) (hrov b x L hx0 hro hL i hi)) (fun i hi => hg'.ext.froz _ (hh.blk_lt hx0 hL hi))
              refine Blk.rel_names ?_ hrel1
              intro c M hM
              rcases Nat.lt_or_ge c sh.length with h3 | h3
              · rw [hat c h3]; exact hM
              · rw [hh.fresh c h3] at hM; cases hM
            · obtain ⟨L, hL, hrel0⟩ := hr'.heap.blk b x hsx hnd'
              rw [hold b (by omega)] at hL
              refine ⟨L, hL, ?_⟩
              -- a written block names nothing new
              refine below_rel hbel hrel0 ?_
              intro c hc
              unfold reNames; rw [if_pos hc]
          · rw [List.getElem?_append_right hge'] at hx
            obtain ⟨c, e1, e2, e3, _⟩ := n2 _ x hx
            obtain ⟨L, hL, hrel0⟩ := hr'.heap.blk c x e2 hd
            refine ⟨L, ?_, freeB_rel e3 hrel0⟩
            have := hnat _ c e1
            rw [k1, show sh.length + (b - sh.length) = b by omega] at this
            rw [this]; exact hL
        · intro b c x z L M hne hx hz hL hM hrw i j hi hj he
          have hnew : ∀ q, sh.length ≤ q → ∀ u, nb[q - kb.length]? = some u → ∃ c, (freshIds sh.length is [])[q - sh.length]? = some c ∧ s'.h[c]? = some u ∧ reNames γ sh.length (freshIds sh.length is []) q = γ c := by
            intro q hq u hu
            obtain ⟨c, e1, e2, _⟩ := n2 _ u hu
            rw [k1] at e1
            refine ⟨c, e1, e2, ?_⟩
            have := hnat _ c e1
            rw [show sh.length + (q - sh.length) = q by omega] at this
            exact this
          rcases Nat.lt_or_ge b kb.length with hb1 | hb1 <;> rcases Nat.lt_or_ge c kb.length with hc1 | hc1
          · rw [List.getElem?_append_left hb1] at hx
            rw [List.getElem?_append_left hc1] at hz
            rw [hat b (by omega)] at hL
            rw [hat c (by omega)] at hM
            obtain ⟨x0, hx0, hcx⟩ := hkat b x (by omega) hx
            obtain ⟨z0, hz0, hcz⟩ := hkat c z (by omega) hz
            have hx0rw : x0.rw = true := by
              rcases hcx with ⟨h, rfl⟩ | ⟨h, _⟩
              · exact hrw
              · exact h
            have hie : i < x0.ext L := by
              rcases hcx with ⟨_, rfl⟩ | ⟨_, _, hd', hsx, _⟩
              · exact hi
              · have := Nat.lt_of_lt_of_le hi Blk.ext_le
                rw [ext_full (k3 b x0 hx0).1]; exact this
            have hje : j < z0.ext M := by
              rcases hcz with ⟨_, rfl⟩ | ⟨_, _, hd', hsz, _⟩
              · exact hj
              · have := Nat.lt_of_lt_of_le hj Blk.ext_le
                rw [ext_full (k3 c z0 hz0).1]; exact this
            exact hh.disj b c x0 z0 L M hne hx0 hz0 hL hM hx0rw i j hie hje he
          · rw [List.getElem?_append_left hb1] at hx
            rw [List.getElem?_append_right hc1] at hz
            rw [hat b (by omega)] at hL
            obtain ⟨x0, hx0, hcx⟩ := hkat b x (by omega) hx
            obtain ⟨c', q1, q2, q3⟩ := hnew c (by omega) z hz
            rw [q3] at hM
            have hie : i < x0.ext L := by
              have := Nat.lt_of_lt_of_le hi Blk.ext_le
              rw [ext_full (k3 b x0 hx0).1]; exact this
            have h6 := hh.blk_lt hx0 hL hie
            have h7 := hnewblk c' z M q1 q2 hM (by omega)
            omega
          · rw [List.getElem?_append_right hb1] at hx
            rw [List.getElem?_append_left hc1] at hz
            rw [hat c (by omega)] at hM
            obtain ⟨z0, hz0, hcz⟩ := hkat c z (by omega) hz
            obtain ⟨b', q1, q2, q3⟩ := hnew b (by omega) x hx
            rw [q3] at hL
            have hje : j < z0.ext M := by
              have := Nat.lt_of_lt_of_le hj Blk.ext_le
              rw [ext_full (k3 c z0 hz0).1]; exact this
            have h6 := hh.blk_lt hz0 hM hje
            have h7 := hnewblk b' x L q1 q2 hL (by omega)
            omega
          · rw [List.getElem?_append_right hb1] at hx
            rw [List.getElem?_append_right hc1] at hz
            obtain ⟨b', q1, q2, q3⟩ := hnew b (by omega) x hx
            obtain ⟨c', q4, q5, q6⟩ := hnew c (by omega) z hz
            rw [q3] at hL
            rw [q6] at hM
            refine hr'.heap.disj b' c' x z L M ?_ q2 q5 hL hM hrw i j hi hj he
            rintro rfl
            have := nodupB_at hnd q1 q4
            omega
        · intro b hb'
          rw [List.length_append, k1, n1] at hb'
          unfold reNames
          rw [if_neg (by omega)]
          have : (freshIds sh.length is [])[b - sh.length]? = none := by simp; omega
          rw [this]
      · intro b x L hb' hx hL hpos
        rw [List.getElem?_append_right (by rw [k1]; exact hb')] at hx
        obtain ⟨c, e1, e2, _⟩ := n2 _ x hx
        rw [k1] at e1
        refine hnb2 c x L e1 e2 ?_ hpos
        rw [← hL]
        unfold reNames
        rw [if_neg (by omega), e1]
    rcases he with rfl | rfl
    · exact hfin
    · exact hfin

end
end Go.Proofs.Ytjnfeffflkgddaa.Hx
