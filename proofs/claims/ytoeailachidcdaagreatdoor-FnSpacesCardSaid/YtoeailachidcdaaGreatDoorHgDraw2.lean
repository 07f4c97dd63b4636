import Derived.Test.YtoeailachidcdaaGreatDoorHgDraw1
namespace Go.Proofs.YtoeailachidcdaaGreatDoor.Hg
set_option linter.unusedVariables false
set_option linter.unusedSimpArgs false
set_option linter.unusedSectionVars false
open Go Go.RowKit
variable [Gl : Glob]
def Wr (E : Env) (R : Reg) (V : List AV) (own : List Nat) (tc : List (Option (List Nat))) (H : Nat → Heap) (i : Nat) : Prop := ∃ o, R.ops[i]? = some o ∧ isW E o = true ∧ Ran E R V own tc i o (H i) (H (i + 1))
structure Fixed (E : Env) (R : Reg) (V : List AV) (own : List Nat) (tc : List (Option (List Nat))) (H : Nat → Heap) : Prop where
  anc : ancs [] R.ops = some R.as
  fill : fillOk R.ops 0 R.ops = true
  ws : R.ws = writers E 0 R.ops
  told : Told E R V own tc H 0
  h0 : (H 0).length = R.n0
  vlen : V.length = R.ops.length
  calm : calmAll E R V tc 0 R.ops = true
section
variable {E : Env} {R : Reg} {V : List AV} {own : List Nat} {tc : List (Option (List Nat))} {H : Nat → Heap}
theorem Fixed.mono (F : Fixed E R V own tc H) {a : Nat} : ∀ {b : Nat}, a ≤ b → b ≤ R.ops.length → (H a).length ≤ (H b).length
  | 0, h, _ => by have : a = 0 := by omega
                  subst this; exact Nat.le_refl _
  | b + 1, h, hb => by
    rcases Nat.lt_or_ge b a with h1 | h1
    · have : a = b + 1 := by omega
      subst this; exact Nat.le_refl _
    · exact Nat.le_trans (F.mono h1 (by omega)) (F.told.len b (by omega) (by omega))
theorem Fixed.maker (F : Fixed E R V own tc H) : ∀ {m b : Nat}, m ≤ R.ops.length → R.n0 ≤ b → b < (H m).length → ∃ j, j < m ∧ own.getD (b - R.n0) 0 = j ∧ (H j).length ≤ b ∧ b < (H (j + 1)).length
  | 0, b, _, h1, h2 => by rw [F.h0] at h2; omega
  | m + 1, b, hm, h1, h2 => by
    by_cases hb : b < (H m).length
    · obtain ⟨j, h3, h4⟩ := F.maker (m := m) (by omega) h1 hb
      exact ⟨j, by omega, h4⟩
    · have := F.told.owns m b (by omega) (by omega) (by omega) h2
      exact ⟨m, by omega, by rw [List.getD_eq_getElem?_getD, this]; rfl, by omega, h2⟩
theorem Fixed.maker_ord (F : Fixed E R V own tc H) {j : Nat} (hj : j < R.ops.length) {b : Nat} (h1 : (H j).length ≤ b) (h2 : b < (H (j + 1)).length) : ordB R.as R.ws j = true := by
  have ho := List.getElem?_eq_getElem hj
  rcases F.told.op j _ (by omega) ho with r | r
  · obtain ⟨v, _, h | h | h⟩ := r.kind
    · exact h.2.1
    · exact h.2.1
    · rw [h.2.2.2] at h2; omega
  · rw [r.mem] at h2; omega
theorem Fixed.seg (F : Fixed E R V own tc H) {a : Nat} : ∀ {b : Nat}, a ≤ b → b ≤ R.ops.length → (∀ w, a ≤ w → w < b → ¬ Wr E R V own tc H w) → ∃ nb, H b = H a ++ nb
  | 0, h, _, _ => by have : a = 0 := by omega
                     subst this; exact ⟨[], by simp⟩
  | b + 1, h, hb, hw => by
    rcases Nat.lt_or_ge b a with h1 | h1
    · have : a = b + 1 := by omega
      subst this; exact ⟨[], by simp⟩
    · obtain ⟨nb, h2⟩ := F.seg h1 (by omega) fun w h3 h4 => hw w h3 (by omega)
      have ho := List.getElem?_eq_getElem (show b < R.ops.length by omega)
      rcases F.told.op b _ (by omega) ho with r | r
      · obtain ⟨v, _, h | h | h⟩ := r.kind
        · exact absurd ⟨_, ho, h.1, r⟩ (hw b h1 (by omega))
        · obtain ⟨_, _, nb2, _, _, e⟩ := h
          exact ⟨nb ++ nb2, by rw [e, h2, List.append_assoc]⟩
        · exact ⟨nb, by rw [h.2.2.2, h2]⟩
      · exact ⟨nb, by rw [r.mem, h2]⟩
theorem Fixed.front (_ : Fixed E R V own tc H) (L : Nat → Bool) : ∀ n, ∃ m, m ≤ n ∧ (m = n ∨ (Wr E R V own tc H m ∧ L m = false)) ∧ ∀ w, w < m → Wr E R V own tc H w → L w = true
  | 0 => ⟨0, Nat.le_refl _, .inl rfl, fun w h => by omega⟩
  | n + 1 => by
    obtain ⟨m, h1, h2, h3⟩ := Fixed.front ‹_› L n
    rcases h2 with rfl | h2
    · by_cases hn : Wr E R V own tc H m ∧ L m = false
      · exact ⟨m, by omega, .inr hn, h3⟩
      · refine ⟨m + 1, Nat.le_refl _, .inl rfl, fun w hw hr => ?_⟩
        rcases Nat.lt_or_ge w m with h4 | h4
        · exact h3 w h4 hr
        · have : w = m := by omega
          subst this
          cases hL : L w with
          | true => rfl
          | false => exact absurd ⟨hr, hL⟩ hn
    · exact ⟨m, by omega, .inr h2, h3⟩
theorem Fixed.ord (F : Fixed E R V own tc H) {i : Nat} (h : ordB R.as R.ws i = true) {w : Nat} (hw : Wr E R V own tc H w) : w = i ∨ Nat.testBit (R.as.getD i 0) w = true ∨ Nat.testBit (R.as.getD w 0) i = true := by
  obtain ⟨o, h1, h2, _⟩ := hw
  rw [F.ws] at h
  exact ordB_ok h h1 h2
theorem calmAll_at {V' : List AV} : ∀ {l : List Oper} {n i : Nat} {o : Oper}, calmAll E R V' tc n l = true → l[i]? = some o → isW E o = false → ordB R.as R.ws (n + i) = false → ∀ b ∈ R.fl V' (n + i) o.op, calmB R.as R.ws tc (n + i) b = true
  | [], _, _, _, _, h, _, _ => by simp at h
  | p :: r, n, i, o, hc, ho, hw, hord => by
    simp only [calmAll, Bool.and_eq_true] at hc
    cases i with
    | zero =>
      simp only [List.getElem?_cons_zero, Option.some.injEq] at ho
      subst ho
      have h1 := hc.1
      rw [Nat.add_zero] at hord ⊢
      simp only [hw, hord, Bool.false_or, List.all_eq_true] at h1
      exact h1
    | succ i =>
      have := calmAll_at hc.2 (i := i) (by simpa using ho) hw (by rw [show n + 1 + i = n + (i + 1) by omega]; exact hord)
      rw [show n + 1 + i = n + (i + 1) by omega] at this
      exact this
theorem Fixed.calmed (F : Fixed E R V own tc H) {i b : Nat} (hb : b < R.n0) (hc : calmB R.as R.ws tc i b = true) : ∀ n, n ≤ R.ops.length → (∀ w, w < n → Wr E R V own tc H w → Nat.testBit (R.as.getD w 0) i = false) → (H n)[b]? = (H 0)[b]?
  | 0, _, _ => rfl
  | n + 1, hn, hno => by
    rw [← F.calmed hb hc n (by omega) (fun w hw => hno w (by omega))]
    have ho := List.getElem?_eq_getElem (show n < R.ops.length by omega)
    have hlen : b < (H n).length := by
      have := F.mono (Nat.zero_le n) (by omega)
      rw [F.h0] at this; omega
    rcases F.told.op n _ (by omega) ho with r | r
    · obtain ⟨v, _, h | h | h⟩ := r.kind
      · obtain ⟨h1, _, _, _, h5⟩ := h
        have hnb := hno n (by omega) ⟨_, ho, h1, r⟩
        have hm := writers_mem (n := 0) ho h1
        rw [Nat.zero_add, ← F.ws] at hm
        have := List.all_eq_true.1 hc n hm
        rw [hnb, Bool.false_or] at this
        split at this
        · rename_i T hT
          have hT' : tc[n]? = some (some T) := by
            rw [List.getD_eq_getElem?_getD] at hT
            cases hq : tc[n]? with
            | none => rw [hq] at hT; cases hT
            | some q => rw [hq] at hT; simp only [Option.getD_some] at hT; rw [hT]
          exact h5 T hT' b hlen (by simpa using this)
        · cases this
      · obtain ⟨_, _, nb, _, _, e⟩ := h
        rw [e, List.getElem?_append_left hlen]
      · rw [h.2.2.2]
    · rw [r.mem]
def visL (R : Reg) (own : List Nat) (L : Nat → Bool) (b : Nat) : Bool := decide (b < R.n0) || L (own.getD (b - R.n0) 0)
def slotD (R : Reg) (V : List AV) (L : Nat → Bool) (t : Nat) (u : AV) : AV := match fillFrom t 0 R.ops with | none => u | some j => if L j = true then V.getD j .any else u
def mem (R : Reg) (own : List Nat) (H : Nat → Heap) (L : Nat → Bool) (m : Nat) : Heap := maskF (visL R own L) id 0 (H m)
structure Inv (E : Env) (R : Reg) (V : List AV) (own : List Nat) (tc : List (Option (List Nat))) (H : Nat → Heap) (β0 : Names) (w0 : World) (L : Nat → Bool) (m : Nat) (β : Names) (a : Act) (w : World) : Prop where
  len : a.tmps.size = R.base.length
  defers : a.defers = []
  val : ∀ t u, R.base[t]? = some u → (slotD R V L t u).rel β (a.tmps.getD t undef)
  heap : HRel β (mem R own H L m) w
  none' : ∀ b, R.n0 ≤ b → L (own.getD (b - R.n0) 0) = false → β b = none
  old : ∀ b, b < R.n0 → β b = β0 b
  ext : Ext (Mine β0 (H 0)) w0 w
  mine : ∀ x, Mine β (mem R own H L m) x → Mine β0 (H 0) x ∨ w0.heap.size ≤ x.block
  mle : m ≤ R.ops.length
  front : m = R.ops.length ∨ (Wr E R V own tc H m ∧ L m = false)
  done : ∀ w, w < m → Wr E R V own tc H w → L w = true
theorem mem_get {L : Nat → Bool} {m b : Nat} : (mem R own H L m)[b]? = ((H m)[b]?).map fun x => if visL R own L b = true then x else deadB := by
  unfold mem
  rw [maskF_get, Nat.zero_add]
  rfl
theorem mem_length {L : Nat → Bool} {m : Nat} : (mem R own H L m).length = (H m).length := maskF_length
theorem mem_live {L : Nat → Bool} {m b : Nat} {x : Blk} (h : (mem R own H L m)[b]? = some x) (hx : x.c ≠ .dead) : (H m)[b]? = some x ∧ visL R own L b = true := by
  rw [mem_get, Option.map_eq_some_iff] at h
  obtain ⟨y, h1, h2⟩ := h
  split at h2
  · rename_i hv; subst h2; exact ⟨h1, hv⟩
  · subst h2; exact absurd rfl hx
theorem mem_vis {L : Nat → Bool} {m b : Nat} {x : Blk} (h : (H m)[b]? = some x) (hv : visL R own L b = true) : (mem R own H L m)[b]? = some x := by
  rw [mem_get, h]; simp [hv]
def put1 (L : Nat → Bool) (i : Nat) : Nat → Bool := fun j => if j = i then true else L j
variable {β0 : Names} {w0 : World} {L : Nat → Bool} {m : Nat} {β : Names} {a : Act} {w : World}
theorem Inv.slots (F : Fixed E R V own tc H) (I : Inv E R V own tc H β0 w0 L m β a w) {i n : Nat} (hL : L i = false) (hcl : Closed R.ops (fun j => L j = true)) (hrd : ∀ j, Nat.testBit (R.as.getD i 0) j = true → L j = true) :
    ∀ (t : Nat) (v : AV), (slotsAt R.ops R.as V n i 0 R.base)[t]? = some v → v.rel (cutN β n) (a.tmps.getD t undef) := by
  intro t v hv
  rw [slotsAt_get, Option.map_eq_some_iff] at hv
  obtain ⟨u, hu, rfl⟩ := hv
  have hval := I.val t u hu
  rw [Nat.zero_add]
  unfold slotAt
  unfold slotD at hval
  split
  · rename_i hf
    rw [hf] at hval
    exact clip_ok hval
  · rename_i j hf
    rw [hf] at hval
    simp only at hval
    split
    · rename_i hj
      rw [if_pos (hrd j hj.2)] at hval
      exact clip_ok hval
    · split
      · rename_i hj
        have hLj : L j = false := by
          rcases hj with rfl | hj
          · exact hL
          · cases hc : L j with
            | false => rfl
            | true => rw [anc_closed F.anc hcl j i hc hj] at hL; cases hL
        rw [if_neg (by simp [hLj])] at hval
        exact clip_ok hval
      · trivial
theorem Inv.put (F : Fixed E R V own tc H) (I : Inv E R V own tc H β0 w0 L m β a w) {γ : Names} (hle : β.le γ) {i : Nat} {o : Oper} (ho : R.ops[i]? = some o) {v : AV} (hV : V[i]? = some v) {y : Value} (hv : v.rel γ y) :
    (a.put o.dst y).tmps.size = R.base.length ∧ (a.put o.dst y).defers = [] ∧ ∀ t u, R.base[t]? = some u → (slotD R V (put1 L i) t u).rel γ ((a.put o.dst y).tmps.getD t undef) := by
  have hfl : ∀ d, o.dst = some d → fillFrom d 0 R.ops = some i := fun d hd => by
    have := fillOk_ok F.fill ho hd
    simpa using this
  have hother : ∀ t u, o.dst ≠ some t → slotD R V (put1 L i) t u = slotD R V L t u := by
    intro t u hne
    unfold slotD
    split
    · rfl
    · rename_i j hf
      have hji : j ≠ i := by
        intro e
        subst e
        obtain ⟨_, p, hp, hd⟩ := fillFrom_spec hf
        rw [Nat.sub_zero, ho] at hp
        cases hp
        exact hne hd
      simp [put1, hji]
  refine ⟨?_, ?_, fun t u hu => ?_⟩
  · have := I.len
    cases hd : o.dst <;> simp [Act.put, this]
  · have := I.defers
    cases hd : o.dst <;> simp [Act.put, this]
  · cases hd : o.dst with
    | none =>
      rw [hother t u (by rw [hd]; simp)]
      exact AV.rel_le hle (I.val t u hu)
    | some d =>
      by_cases htd : t = d
      · subst htd
        have hlt : t < a.tmps.size := by rw [I.len]; exact (List.getElem?_eq_some_iff.1 hu).1
        have e1 : (a.put (some t) y).tmps.getD t undef = y := by
          simp only [Act.put, Array.getD_eq_getD_getElem?]
          rw [Array.getElem?_setIfInBounds_self]
          simp [hlt]
        have e2 : slotD R V (put1 L i) t u = v := by
          unfold slotD
          rw [hfl t hd]
          simp [put1, List.getD_eq_getElem?_getD, hV]
        rw [e1, e2]; exact hv
      · have e1 : (a.put (some d) y).tmps.getD t undef = a.tmps.getD t undef := by
          simp only [Act.put, Array.getD_eq_getD_getElem?]
          rw [Array.getElem?_setIfInBounds_ne (fun e => htd e.symm)]
        rw [e1, hother t u (by rw [hd]; simpa using fun e => htd e.symm)]
        exact AV.rel_le hle (I.val t u hu)
theorem Inv.quiet (F : Fixed E R V own tc H) (I : Inv E R V own tc H β0 w0 L m β a w) {i : Nat} {o : Oper} (ho : R.ops[i]? = some o) (hmem : H (i + 1) = H i) (hnw : ¬ Wr E R V own tc H i) {v : AV} (hV : V[i]? = some v) {y : Value} (hv : v.rel β y) {w' : World} (hb : Below w.heap.size w w') :
    Inv E R V own tc H β0 w0 (put1 L i) m β (a.put o.dst y) w' := by
  obtain ⟨p1, p2, p3⟩ := I.put F (Names.le_refl β) ho hV hv
  have hi : i < R.ops.length := (List.getElem?_eq_some_iff.1 ho).1
  have hme : mem R own H (put1 L i) m = mem R own H L m := by
    unfold mem
    refine maskF_congr fun b _ hb' => ?_
    unfold visL
    by_cases h0 : b < R.n0
    · simp [h0]
    · obtain ⟨j, h1, h2, h3, h4⟩ := F.maker I.mle (by omega) (show b < (H m).length by omega)
      have hji : j ≠ i := by intro e; subst e; rw [hmem] at h4; omega
      rw [h2]; simp [put1, hji]
  refine ⟨p1, p2, p3, by rw [hme]; exact I.heap.below hb, fun b h1 h2 => ?_, I.old, ?_, by rw [hme]; exact I.mine, I.mle, ?_, fun u hu hw => ?_⟩
  · refine I.none' b h1 ?_
    unfold put1 at h2
    split at h2
    · cases h2
    · exact h2
  · exact I.ext.trans (Ext.of_below (M := fun _ => False) hb) fun x hx => hx.elim
  · rcases I.front with h | ⟨h1, h2⟩
    · exact .inl h
    · refine .inr ⟨h1, ?_⟩
      have : m ≠ i := by intro e; subst e; exact hnw h1
      simp [put1, this, h2]
  · have := I.done u hu hw
    unfold put1
    split <;> simp_all
end
end Go.Proofs.YtoeailachidcdaaGreatDoor.Hg
