import Derived.Test.YtoeailachidcdaaGreatDoorHgDraw
namespace Go.Proofs.YtoeailachidcdaaGreatDoor.Hg
set_option linter.unusedVariables false
set_option linter.unusedSimpArgs false
set_option linter.unusedSectionVars false
open Go Go.RowKit
variable [Gl : Glob]
theorem maskOf_bit {as : List Nat} {j : Nat} : ∀ {es : List Edge}, Nat.testBit (maskOf as es) j = true → ∃ e ∈ es, binds e = true ∧ (j = e.on ∨ Nat.testBit (as.getD e.on 0) j = true)
  | [], h => by simp [maskOf] at h
  | e :: r, h => by
    simp only [maskOf] at h
    split at h
    · rename_i hb
      rw [Nat.testBit_or, Nat.testBit_or, Bool.or_eq_true, Bool.or_eq_true] at h
      rcases h with (h | h) | h
      · rw [Nat.testBit_two_pow] at h
        exact ⟨e, List.mem_cons_self .., hb, .inl (of_decide_eq_true h).symm⟩
      · exact ⟨e, List.mem_cons_self .., hb, .inr h⟩
      · obtain ⟨f, hf, h1, h2⟩ := maskOf_bit h
        exact ⟨f, List.mem_cons_of_mem _ hf, h1, h2⟩
    · obtain ⟨f, hf, h1, h2⟩ := maskOf_bit h
      exact ⟨f, List.mem_cons_of_mem _ hf, h1, h2⟩
theorem maskOf_congr {as bs : List Nat} : ∀ {es : List Edge}, (∀ e ∈ es, binds e = true → as.getD e.on 0 = bs.getD e.on 0) → maskOf as es = maskOf bs es
  | [], _ => rfl
  | e :: r, h => by
    have ih := maskOf_congr (es := r) fun f hf => h f (List.mem_cons_of_mem _ hf)
    simp only [maskOf]
    rw [ih]
    split
    · rename_i hb; rw [h e (List.mem_cons_self ..) hb]
    · rfl
theorem ancs_ok : ∀ {l : List Oper} {as bs : List Nat}, ancs as l = some bs → (∀ j, j < as.length → bs[j]? = as[j]?) ∧ bs.length = as.length + l.length ∧
    ∀ i o, l[i]? = some o → (∀ e ∈ o.after.toList, binds e = true → e.on < as.length + i) ∧ bs[as.length + i]? = some (maskOf bs o.after.toList)
  | [], as, bs, h => by
    simp only [ancs, Option.some.injEq] at h
    subst h
    exact ⟨fun _ _ => rfl, by simp, fun i o ho => by simp at ho⟩
  | o :: l, as, bs, h => by
    simp only [ancs] at h
    split at h
    · rename_i hb
      obtain ⟨h1, h2, h3⟩ := ancs_ok h
      have hon : ∀ e ∈ o.after.toList, binds e = true → e.on < as.length := by
        intro e he hbe
        have := List.all_eq_true.1 hb e he
        simpa [hbe] using this
      refine ⟨fun j hj => ?_, by simp at h2 ⊢; omega, fun i p hp => ?_⟩
      · rw [h1 j (by simp; omega), List.getElem?_append_left hj]
      · cases i with
        | zero =>
          simp only [List.getElem?_cons_zero, Option.some.injEq] at hp
          subst hp
          refine ⟨hon, ?_⟩
          rw [Nat.add_zero, h1 as.length (by simp), List.getElem?_append_right (Nat.le_refl _)]
          simp only [Nat.sub_self, List.getElem?_cons_zero]
          congr 1
          refine maskOf_congr fun e he hbe => ?_
          have := hon e he hbe
          rw [List.getD_eq_getElem?_getD, List.getD_eq_getElem?_getD, h1 _ (by simp; omega), List.getElem?_append_left this]
        | succ i =>
          have := h3 i p (by simpa using hp)
          simp only [List.length_append, List.length_cons, List.length_nil, Nat.zero_add] at this
          rw [show as.length + (i + 1) = as.length + 1 + i by omega]
          exact this
    · cases h
def Closed (ops : List Oper) (D : Nat → Prop) : Prop := ∀ i o, ops[i]? = some o → D i → ∀ e ∈ o.after.toList, binds e = true → D e.on
section
variable {ops : List Oper} {as : List Nat}
theorem anc_at (h : ancs [] ops = some as) {i : Nat} (hi : i < ops.length) : ∃ o, ops[i]? = some o ∧ (∀ e ∈ o.after.toList, binds e = true → e.on < i) ∧ as.getD i 0 = maskOf as o.after.toList := by
  obtain ⟨_, _, h3⟩ := ancs_ok h
  obtain ⟨h4, h5⟩ := h3 i ops[i] (List.getElem?_eq_getElem hi)
  simp only [List.length_nil, Nat.zero_add] at h4 h5
  exact ⟨ops[i], List.getElem?_eq_getElem hi, h4, by rw [List.getD_eq_getElem?_getD, h5]; rfl⟩
theorem anc_none (h : ancs [] ops = some as) {i : Nat} (hi : ops.length ≤ i) : as.getD i 0 = 0 := by
  obtain ⟨_, h2, _⟩ := ancs_ok h
  rw [List.getD_eq_getElem?_getD, List.getElem?_eq_none (by simp at h2; omega)]; rfl
theorem anc_lt (h : ancs [] ops = some as) : ∀ (i j : Nat), Nat.testBit (as.getD i 0) j = true → j < i := by
  intro i
  induction i using Nat.strongRecOn with
  | ind i ih =>
    intro j hj
    by_cases hi : i < ops.length
    · obtain ⟨o, ho, h1, h2⟩ := anc_at h hi
      rw [h2] at hj
      obtain ⟨e, he, hb, h3⟩ := maskOf_bit hj
      have := h1 e he hb
      rcases h3 with rfl | h3
      · exact this
      · have := ih _ this j h3; omega
    · rw [anc_none h (by omega)] at hj; simp at hj
theorem anc_closed (h : ancs [] ops = some as) {D : Nat → Prop} (hD : Closed ops D) : ∀ (i j : Nat), D i → Nat.testBit (as.getD i 0) j = true → D j := by
  intro i
  induction i using Nat.strongRecOn with
  | ind i ih =>
    intro j hi' hj
    by_cases hi : i < ops.length
    · obtain ⟨o, ho, h1, h2⟩ := anc_at h hi
      rw [h2] at hj
      obtain ⟨e, he, hb, h3⟩ := maskOf_bit hj
      have hd := hD i o ho hi' e he hb
      rcases h3 with rfl | h3
      · exact hd
      · exact ih _ (h1 e he hb) j hd h3
    · rw [anc_none h (by omega)] at hj; simp at hj
theorem anc_ready (h : ancs [] ops = some as) {D : Nat → Prop} (hD : Closed ops D) {i : Nat} {o : Oper} (ho : ops[i]? = some o) (hr : ∀ e ∈ o.after.toList, binds e = true → D e.on) {j : Nat} (hj : Nat.testBit (as.getD i 0) j = true) : D j := by
  obtain ⟨o', ho', h1, h2⟩ := anc_at h (List.getElem?_eq_some_iff.1 ho).1
  rw [ho] at ho'; cases ho'
  rw [h2] at hj
  obtain ⟨e, he, hb, h3⟩ := maskOf_bit hj
  rcases h3 with rfl | h3
  · exact hr e he hb
  · exact anc_closed h hD _ _ (hr e he hb) h3
end
theorem fillFrom_spec {t : Nat} : ∀ {l : List Oper} {n j : Nat}, fillFrom t n l = some j → n ≤ j ∧ ∃ o, l[j - n]? = some o ∧ o.dst = some t
  | [], _, _, h => by simp [fillFrom] at h
  | o :: r, n, j, h => by
    simp only [fillFrom] at h
    have next : fillFrom t (n + 1) r = some j → n ≤ j ∧ ∃ p, (o :: r)[j - n]? = some p ∧ p.dst = some t := by
      intro h
      obtain ⟨h1, p, h2, h3⟩ := fillFrom_spec h
      exact ⟨by omega, p, by rw [show j - n = (j - (n + 1)) + 1 by omega]; simpa using h2, h3⟩
    split at h
    · rename_i d hd
      split at h
      · rename_i e
        cases h
        exact ⟨Nat.le_refl _, o, by simp, by rw [hd, e]⟩
      · exact next h
    · exact next h
theorem fillOk_ok {ops : List Oper} : ∀ {l : List Oper} {n i : Nat} {o : Oper} {d : Tmp}, fillOk ops n l = true → l[i]? = some o → o.dst = some d → fillFrom d 0 ops = some (n + i)
  | [], _, _, _, _, _, h, _ => by simp at h
  | p :: r, n, i, o, d, h, ho, hd => by
    simp only [fillOk, Bool.and_eq_true] at h
    cases i with
    | zero =>
      simp only [List.getElem?_cons_zero, Option.some.injEq] at ho
      subst ho
      have := h.1
      rw [hd] at this
      simpa using this
    | succ i =>
      have := fillOk_ok h.2 (i := i) (by simpa using ho) hd
      rw [this]; congr 1; omega
theorem writers_mem {E : Env} : ∀ {l : List Oper} {n i : Nat} {o : Oper}, l[i]? = some o → isW E o = true → (n + i) ∈ writers E n l
  | [], _, _, _, h, _ => by simp at h
  | p :: r, n, 0, o, h, hw => by
    simp only [List.getElem?_cons_zero, Option.some.injEq] at h
    subst h
    simp [writers, hw]
  | p :: r, n, i + 1, o, h, hw => by
    have := writers_mem (n := n + 1) (l := r) (i := i) (by simpa using h) hw
    rw [show n + 1 + i = n + (i + 1) by omega] at this
    simp only [writers]
    split
    · exact List.mem_cons_of_mem _ this
    · exact this
theorem ordB_ok {E : Env} {ops : List Oper} {as : List Nat} {i : Nat} (h : ordB as (writers E 0 ops) i = true) {w : Nat} {o : Oper} (ho : ops[w]? = some o) (hw : isW E o = true) : w = i ∨ Nat.testBit (as.getD i 0) w = true ∨ Nat.testBit (as.getD w 0) i = true := by
  have hm := writers_mem (n := 0) ho hw
  rw [Nat.zero_add] at hm
  have := List.all_eq_true.1 h w hm
  simp only [Bool.or_eq_true, beq_iff_eq] at this
  rcases this with (h | h) | h
  · exact .inl h
  · exact .inr (.inl h)
  · exact .inr (.inr h)
theorem slotsAt_get {ops : List Oper} {as : List Nat} {vals : List AV} {n i : Nat} : ∀ {base : List AV} {t0 t : Nat}, (slotsAt ops as vals n i t0 base)[t]? = (base[t]?).map (slotAt ops as vals n i (t0 + t))
  | [], _, _ => by simp [slotsAt]
  | u :: r, t0, 0 => by simp [slotsAt]
  | u :: r, t0, t + 1 => by
    simp only [slotsAt, List.getElem?_cons_succ]
    rw [slotsAt_get (t0 := t0 + 1), show t0 + 1 + t = t0 + (t + 1) by omega]
theorem slotsAt_length {ops : List Oper} {as : List Nat} {vals : List AV} {n i : Nat} : ∀ {base : List AV} {t0 : Nat}, (slotsAt ops as vals n i t0 base).length = base.length
  | [], _ => rfl
  | u :: r, t0 => by simp [slotsAt, slotsAt_length (t0 := t0 + 1)]
theorem slotsEnd_get {ops : List Oper} {vals : List AV} : ∀ {base : List AV} {t0 t : Nat}, (slotsEnd ops vals t0 base)[t]? = (base[t]?).map (slotE ops vals (t0 + t))
  | [], _, _ => by simp [slotsEnd]
  | u :: r, t0, 0 => by simp [slotsEnd]
  | u :: r, t0, t + 1 => by
    simp only [slotsEnd, List.getElem?_cons_succ]
    rw [slotsEnd_get (t0 := t0 + 1), show t0 + 1 + t = t0 + (t + 1) by omega]
theorem slotsEnd_length {ops : List Oper} {vals : List AV} : ∀ {base : List AV} {t0 : Nat}, (slotsEnd ops vals t0 base).length = base.length
  | [], _ => rfl
  | u :: r, t0 => by simp [slotsEnd, slotsEnd_length (t0 := t0 + 1)]
theorem clip_ok {β : Names} {n : Nat} {v : AV} {y : Value} (r : v.rel β y) : (clip n v).rel (cutN β n) y := by
  unfold clip
  split
  · rename_i h; exact belowAV_ok h r
  · trivial
theorem cutN_le {β : Names} {n : Nat} : (cutN β n).le β := by
  intro b L h
  unfold cutN at h
  split at h
  · exact h
  · cases h
theorem HRel.below {β : Names} {h : Heap} {w w' : World} (r : HRel β h w) (hb : Below w.heap.size w w') : HRel β h w' where
  blk := by
    intro b x hx hd
    obtain ⟨L, hL, hr⟩ := r.blk b x hx hd
    exact ⟨L, hL, Blk.rel_below hr hb⟩
  disj := r.disj
  inj := r.inj
  fresh := r.fresh
  glob := Gl.cells w w' (fun a ha => hb.cell (by have := Gl.size w r.glob; omega)) r.glob
  gap := r.gap
end Go.Proofs.YtoeailachidcdaaGreatDoor.Hg
