import Derived.Test.YtoeailachidcdaaGreatDoorHgDraw2
namespace Go.Proofs.YtoeailachidcdaaGreatDoor.Hg
set_option linter.unusedVariables false
set_option linter.unusedSimpArgs false
set_option linter.unusedSectionVars false
open Go Go.RowKit
variable [Gl : Glob]
section
variable {E : Env} {R : Reg} {V : List AV} {own : List Nat} {tc : List (Option (List Nat))} {H : Nat → Heap}
variable {β0 : Names} {w0 : World} {L : Nat → Bool} {m : Nat} {β : Names} {a : Act} {w : World}
theorem not_mine_ro {β : Names} {h : Heap} (hro : ∀ (b : Nat) (y : Blk), h[b]? = some y → y.rw = false) (x : Addr) : ¬ Mine β h x := by
  rintro ⟨b, z, _, hz, hrw, _⟩
  rw [hro b z hz] at hrw
  cases hrw
theorem seen_at {i b n : Nat} {h : Heap} {x : Blk} (hx : (R.seen own i h)[b]? = some x) : ∃ y, h[b]? = some y ∧ x.rw = false ∧ (x.c ≠ .dead → x.c = y.c ∧ blkBelow h.length y = true ∧ visB R.n0 own (R.as.getD i 0) b = true) := by
  unfold Reg.seen at hx
  rw [maskF_get, Option.map_eq_some_iff] at hx
  obtain ⟨y, hy, rfl⟩ := hx
  rw [Nat.zero_add]
  refine ⟨y, hy, ?_, ?_⟩
  · split
    · unfold roB; split <;> rfl
    · rfl
  · intro hd
    split at hd
    · rename_i hv
      rw [if_pos hv]
      unfold roB at hd ⊢
      split at hd
      · rename_i hb
        rw [if_pos hb]
        exact ⟨rfl, hb, hv⟩
      · exact absurd rfl hd
    · exact absurd rfl hd
theorem rel_ro {β : Names} {L : Loc} {y : Blk} {w : World} (h : y.rel β L w) {x : Blk} (hc : x.c = y.c) (hr : x.rw = false) : x.rel β L w := by
  obtain ⟨rw, c⟩ := x
  obtain ⟨rw', c'⟩ := y
  simp only at hc hr
  subst hc; subst hr
  exact ⟨fun hd B X ho => ⟨(h.cells hd B X ho).1, fun e => by cases e⟩, h.cont⟩
theorem Inv.sees (F : Fixed E R V own tc H) (I : Inv E R V own tc H β0 w0 L m β a w) {i : Nat} (hi : i < R.ops.length) (hL : L i = false) (hcl : Closed R.ops (fun j => L j = true)) (hrd : ∀ j, Nat.testBit (R.as.getD i 0) j = true → L j = true) (him : i ≤ m) {t : Heap} (ht : H m = H i ++ t) :
    Rel (cutN β (H i).length) (R.st V i (H i).length (R.seen own i (H i))) a w := by
  refine ⟨?_, I.slots F hL hcl hrd, I.defers, ⟨?_, ?_, ?_, ?_, I.heap.glob, ?_⟩⟩
  · simp only [Reg.st]; rw [slotsAt_length]; exact I.len
  · intro b x hx hd
    obtain ⟨y, hy, hrw, hl⟩ := seen_at (n := 0) hx
    obtain ⟨hc, hbl, hv⟩ := hl hd
    have hlt : b < (H i).length := (List.getElem?_eq_some_iff.1 hy).1
    have hym : (H m)[b]? = some y := by rw [ht, List.getElem?_append_left hlt]; exact hy
    have hvis : visL R own L b = true := by
      unfold visL
      unfold visB at hv
      rw [Bool.or_eq_true] at hv ⊢
      exact hv.imp id (hrd _)
    obtain ⟨M, hM, hrel⟩ := I.heap.blk b y (mem_vis hym hvis) (by rw [← hc]; exact hd)
    refine ⟨M, by unfold cutN; rw [if_pos hlt]; exact hM, ?_⟩
    exact rel_ro (blkBelow_ok hbl hrel) hc hrw
  · intro b b' x x' M M' B X _ hx _ _ _ hrw
    obtain ⟨_, _, h1, _⟩ := seen_at (n := 0) hx
    rw [h1] at hrw; cases hrw
  · intro b x M hx _ hrw
    obtain ⟨_, _, h1, _⟩ := seen_at (n := 0) hx
    rw [h1] at hrw; cases hrw
  · intro b hb
    simp only [Reg.st] at hb
    rw [seen_length] at hb
    unfold cutN; rw [if_neg (by omega)]
  · intro b x M B X hx hrw
    obtain ⟨_, _, h1, _⟩ := seen_at (n := 0) hx
    rw [h1] at hrw; cases hrw
theorem Inv.makes (F : Fixed E R V own tc H) (I : Inv E R V own tc H β0 w0 L m β a w) {i : Nat} {o : Oper} (ho : R.ops[i]? = some o) (hL : L i = false) (hcl : Closed R.ops (fun j => L j = true)) (hrd : ∀ j, Nat.testBit (R.as.getD i 0) j = true → L j = true)
    (hord : ordB R.as R.ws i = true) (hnw : isW E o = false) {nb : Heap} (hmem : H (i + 1) = H i ++ nb) (hrwn : ∀ x ∈ nb, x.rw = true) {v : AV} (hV : V[i]? = some v) (hst : StepFact E o (R.st V i (H i).length (R.seen own i (H i))) v (R.seen own i (H i) ++ nb)) {K : Act → World → Prop} {Q : Exit → Act → World → Prop}
    (hK : ∀ β' a' w', Inv E R V own tc H β0 w0 (put1 L i) m β' a' w' → K a' w') : o.wp E.P a w K Q := by
  have hi : i < R.ops.length := (List.getElem?_eq_some_iff.1 ho).1
  have hnWr : ¬ Wr E R V own tc H i := by
    rintro ⟨o', ho', hw, _⟩
    rw [ho] at ho'; cases ho'
    rw [hnw] at hw; cases hw
  have him : i < m ∨ m = R.ops.length := by
    rcases I.front with h | ⟨h1, h2⟩
    · exact .inr h
    · rcases F.ord hord h1 with h | h | h
      · subst h; exact absurd h1 hnWr
      · rw [hrd _ h] at h2; cases h2
      · exact .inl (anc_lt F.anc _ _ h)
  have him' : i + 1 ≤ m := by
    rcases him with h | h <;> omega
  have hnone : ∀ u, i ≤ u → u < m → ¬ Wr E R V own tc H u := by
    intro u h1 h2 hu
    have hd := I.done u h2 hu
    rcases F.ord hord hu with h | h | h
    · subst h; exact hnWr hu
    · have := anc_lt F.anc _ _ h; omega
    · rw [anc_closed F.anc hcl u i hd h] at hL; cases hL
  obtain ⟨t2, ht2⟩ := F.seg him' I.mle fun u h1 h2 => hnone u (by omega) h2
  have ht : H m = H i ++ (nb ++ t2) := by rw [ht2, hmem, List.append_assoc]
  have hrel := I.sees F hi hL hcl hrd (by omega) ht
  refine hst _ a w hrel K Q fun y w' γ hv hA => ?_
  have hbel : Below w.heap.size w w' := hA.ext.below (not_mine_ro fun b x hx => by
    obtain ⟨_, _, h, _⟩ := seen_at (n := 0) hx; exact h)
  have hsl : (R.st V i (H i).length (R.seen own i (H i))).h.length = (H i).length := by simp only [Reg.st]; exact seen_length
  have hown : ∀ b, (H i).length ≤ b → b < (H i).length + nb.length → own.getD (b - R.n0) 0 = i := by
    intro b h1 h2
    have := F.told.owns i b (by omega) hi h1 (by rw [hmem]; simpa using h2)
    rw [List.getD_eq_getElem?_getD, this]; rfl
  have hn0 : R.n0 ≤ (H i).length := by rw [← F.h0]; exact F.mono (by omega) (by omega)
  have hmlen : (H i).length + nb.length ≤ (H m).length := by rw [ht]; simp
  let δ : Names := fun b => if (H i).length ≤ b ∧ b < (H i).length + nb.length then γ b else β b
  have hδin : ∀ b, (H i).length ≤ b → b < (H i).length + nb.length → δ b = γ b := fun b h1 h2 => if_pos ⟨h1, h2⟩
  have hδout : ∀ b, ¬ ((H i).length ≤ b ∧ b < (H i).length + nb.length) → δ b = β b := fun b h => if_neg h
  have hβnone : ∀ b, (H i).length ≤ b → b < (H i).length + nb.length → β b = none := fun b h1 h2 => I.none' b (by omega) (by rw [hown b h1 h2]; exact hL)
  have hle1 : β.le δ := by
    intro b M hb
    by_cases hin : (H i).length ≤ b ∧ b < (H i).length + nb.length
    · rw [hβnone b hin.1 hin.2] at hb; cases hb
    · rw [hδout b hin]; exact hb
  have hgfresh : ∀ b, (H i).length + nb.length ≤ b → γ b = none := fun b hb => hA.rel.fresh b (by rw [List.length_append, seen_length]; exact hb)
  have hgold : ∀ b, b < (H i).length → γ b = β b := by
    intro b hb
    rw [hA.old b (by rw [hsl]; exact hb)]
    unfold cutN; rw [if_pos hb]
  have hle2 : γ.le δ := by
    intro b M hb
    by_cases hin : (H i).length ≤ b ∧ b < (H i).length + nb.length
    · rw [hδin b hin.1 hin.2]; exact hb
    · rw [hδout b hin]
      by_cases hlt : b < (H i).length
      · rw [← hgold b hlt]; exact hb
      · rw [hgfresh b (by omega)] at hb; cases hb
  obtain ⟨p1, p2, p3⟩ := I.put F hle1 ho hV (AV.rel_le hle2 hv)
  have hnew : ∀ b x, (H i).length ≤ b → b < (H i).length + nb.length → (H m)[b]? = some x → (R.seen own i (H i) ++ nb)[b]? = some x ∧ x.rw = true := by
    intro b x h1 h2 hx
    rw [ht, List.getElem?_append_right h1, List.getElem?_append_left (by omega)] at hx
    refine ⟨?_, hrwn x (List.mem_of_getElem? hx)⟩
    rw [List.getElem?_append_right (by rw [seen_length]; exact h1), seen_length]
    exact hx
  have hnewblk : ∀ b x M B X, (H i).length ≤ b → b < (H i).length + nb.length → (H m)[b]? = some x → x.c ≠ .dead → γ b = some M → M.own B X → w.heap.size ≤ B := by
    intro b x M B X h1 h2 hx hd hM ho
    obtain ⟨hx', hrw⟩ := hnew b x h1 h2 hx
    rcases hA.mine ⟨B, X, none⟩ ⟨b, x, M, hx', hrw, hd, hM, ho⟩ with h | h
    · exact absurd h (not_mine_ro (fun b x hx => by
        obtain ⟨_, _, h, _⟩ := seen_at (n := 0) hx; exact h) _)
    · exact h
  have hvisout : ∀ b, b < (H m).length → ¬ ((H i).length ≤ b ∧ b < (H i).length + nb.length) → visL R own (put1 L i) b = visL R own L b := by
    intro b hb hout
    unfold visL
    by_cases h0 : b < R.n0
    · simp [h0]
    · obtain ⟨j, h1, h2, h3, h4⟩ := F.maker I.mle (by omega) hb
      have hji : j ≠ i := by
        intro e; subst e
        rw [hmem, List.length_append] at h4
        exact hout ⟨h3, h4⟩
      rw [h2]; simp [put1, hji]
  have hold : ∀ (b : Nat) (x : Blk), (mem R own H (put1 L i) m)[b]? = some x → x.c ≠ .dead → ((H i).length ≤ b ∧ b < (H i).length + nb.length ∧ (H m)[b]? = some x) ∨ (¬ ((H i).length ≤ b ∧ b < (H i).length + nb.length) ∧ (mem R own H L m)[b]? = some x) := by
    intro b x hx hd
    obtain ⟨h1, h2⟩ := mem_live hx hd
    by_cases hin : (H i).length ≤ b ∧ b < (H i).length + nb.length
    · exact .inl ⟨hin.1, hin.2, h1⟩
    · refine .inr ⟨hin, mem_vis h1 ?_⟩
      rw [← hvisout b (List.getElem?_eq_some_iff.1 h1).1 hin]; exact h2
  refine hK δ _ w' ⟨p1, p2, p3, ⟨?_, ?_, ?_, ?_, hA.rel.glob, ?_⟩, ?_, ?_, ?_, ?_, I.mle, ?_, ?_⟩
  · intro b x hx hd
    rcases hold b x hx hd with ⟨h1, h2, h3⟩ | ⟨h1, h2⟩
    · obtain ⟨M, hM, hr⟩ := hA.rel.blk b x (hnew b x h1 h2 h3).1 hd
      exact ⟨M, by rw [hδin b h1 h2]; exact hM, Blk.rel_names hle2 hr⟩
    · obtain ⟨M, hM, hr⟩ := (I.heap.below hbel).blk b x h2 hd
      exact ⟨M, by rw [hδout b h1]; exact hM, Blk.rel_names hle1 hr⟩
  · intro b b' x x' M M' B X hne hx hx' hM hM' hrw hd hd' ho ho'
    rcases hold b x hx hd with ⟨h1, h2, h3⟩ | ⟨h1, h2⟩ <;> rcases hold b' x' hx' hd' with ⟨g1, g2, g3⟩ | ⟨g1, g2⟩
    · rw [hδin b h1 h2] at hM
      rw [hδin b' g1 g2] at hM'
      exact hA.rel.disj b b' x x' M M' B X hne (hnew b x h1 h2 h3).1 (hnew b' x' g1 g2 g3).1 hM hM' hrw hd hd' ho ho'
    · rw [hδin b h1 h2] at hM
      rw [hδout b' g1] at hM'
      have e1 := hnewblk b x M B X h1 h2 h3 hd hM ho
      have e2 := I.heap.blk_lt g2 hM' hd' ho'
      omega
    · rw [hδout b h1] at hM
      rw [hδin b' g1 g2] at hM'
      have e1 := hnewblk b' x' M' B X g1 g2 g3 hd' hM' ho'
      have e2 := I.heap.blk_lt h2 hM hd ho
      omega
    · rw [hδout b h1] at hM
      rw [hδout b' g1] at hM'
      exact I.heap.disj b b' x x' M M' B X hne h2 g2 hM hM' hrw hd hd' ho ho'
  · intro b x M hx hM hrw hd
    rcases hold b x hx hd with ⟨h1, h2, h3⟩ | ⟨h1, h2⟩
    · rw [hδin b h1 h2] at hM
      exact hA.rel.inj b x M (hnew b x h1 h2 h3).1 hM hrw hd
    · rw [hδout b h1] at hM
      exact I.heap.inj b x M h2 hM hrw hd
  · intro b hb
    rw [mem_length] at hb
    rw [hδout b (by omega)]
    exact I.heap.fresh b (by rw [mem_length]; exact hb)
  · intro b x M B X hx hrw hd hM ho
    rcases hold b x hx hd with ⟨h1, h2, h3⟩ | ⟨h1, h2⟩
    · rw [hδin b h1 h2] at hM
      exact hA.rel.gap b x M B X (hnew b x h1 h2 h3).1 hrw hd hM ho
    · rw [hδout b h1] at hM
      exact I.heap.gap b x M B X h2 hrw hd hM ho
  · intro b h1 h2
    by_cases hin : (H i).length ≤ b ∧ b < (H i).length + nb.length
    · rw [hown b hin.1 hin.2] at h2; simp [put1] at h2
    · rw [hδout b hin]
      refine I.none' b h1 ?_
      unfold put1 at h2
      split at h2
      · cases h2
      · exact h2
  · intro b hb
    rw [hδout b (by omega)]; exact I.old b hb
  · exact I.ext.trans (Ext.of_below (M := fun _ => False) hbel) fun x hx => hx.elim
  · rintro x ⟨b, z, M, hz, hrw, hd, hM, ho⟩
    rcases hold b z hz hd with ⟨h1, h2, h3⟩ | ⟨h1, h2⟩
    · rw [hδin b h1 h2] at hM
      have := hnewblk b z M _ _ h1 h2 h3 hd hM ho
      exact .inr (Nat.le_trans I.ext.size this)
    · rw [hδout b h1] at hM
      exact I.mine x ⟨b, z, M, h2, hrw, hd, hM, ho⟩
  · rcases I.front with h | ⟨h1, h2⟩
    · exact .inl h
    · refine .inr ⟨h1, ?_⟩
      have : m ≠ i := by intro e; subst e; exact hnWr h1
      simp [put1, this, h2]
  · intro u hu hw
    have := I.done u hu hw
    unfold put1
    split <;> simp_all
theorem Inv.writes (F : Fixed E R V own tc H) (I : Inv E R V own tc H β0 w0 L m β a w) {i : Nat} {o : Oper} (ho : R.ops[i]? = some o) (hL : L i = false) (hcl : Closed R.ops (fun j => L j = true)) (hrd : ∀ j, Nat.testBit (R.as.getD i 0) j = true → L j = true)
    (hord : ordB R.as R.ws i = true) (hwr : Wr E R V own tc H i) {v : AV} (hV : V[i]? = some v) (hst : StepFact E o (R.st V i (H i).length (H i)) v (H (i + 1))) {K : Act → World → Prop} {Q : Exit → Act → World → Prop}
    (hK : ∀ m' β' a' w', Inv E R V own tc H β0 w0 (put1 L i) m' β' a' w' → K a' w') : o.wp E.P a w K Q := by
  have hi : i < R.ops.length := (List.getElem?_eq_some_iff.1 ho).1
  have hmi : m = i := by
    have h1 : m ≤ i := by
      rcases Nat.lt_or_ge i m with h | h
      · rw [I.done i h hwr] at hL; cases hL
      · exact h
    rcases I.front with h | ⟨h2, h3⟩
    · omega
    · rcases F.ord hord h2 with h | h | h
      · exact h
      · rw [hrd _ h] at h3; cases h3
      · have := anc_lt F.anc _ _ h; omega
  subst hmi
  have hvis : ∀ b, b < (H m).length → visL R own L b = true := by
    intro b hb
    unfold visL
    by_cases h0 : b < R.n0
    · simp [h0]
    · obtain ⟨j, h1, h2, h3, h4⟩ := F.maker (m := m) (by omega) (by omega) hb
      rw [h2]
      have : L j = true := by
        rcases F.ord (F.maker_ord (by omega) h3 h4) hwr with h | h | h
        · omega
        · have := anc_lt F.anc _ _ h; omega
        · exact hrd _ h
      simp [this]
  have hmem : mem R own H L m = H m := by
    apply List.ext_getElem?
    intro b
    rw [mem_get]
    cases hb : (H m)[b]? with
    | none => rfl
    | some x => simp [hvis b (List.getElem?_eq_some_iff.1 hb).1]
  have hheap : HRel β (H m) w := by rw [← hmem]; exact I.heap
  have hcut : cutN β (H m).length = β := by
    funext b
    unfold cutN
    split
    · rfl
    · rw [hheap.fresh b (by omega)]
  have hsl := I.slots F (n := (H m).length) hL hcl hrd
  rw [hcut] at hsl
  have hrel : Rel β (R.st V m (H m).length (H m)) a w := ⟨by simp only [Reg.st]; rw [slotsAt_length]; exact I.len, hsl, I.defers, hheap⟩
  refine hst _ a w hrel K Q fun y w' γ hv hA => ?_
  obtain ⟨p1, p2, p3⟩ := I.put F hA.le ho hV hv
  obtain ⟨m', f1, f2, f3⟩ := F.front (put1 L m) R.ops.length
  have hgt : m + 1 ≤ m' := by
    rcases f2 with h | ⟨h1, h2⟩
    · omega
    · rcases Nat.lt_trichotomy m' m with h | h | h
      · have := I.done m' h h1
        unfold put1 at h2
        split at h2
        · cases h2
        · rw [this] at h2; cases h2
      · subst h; simp [put1] at h2
      · exact h
  have hnone : ∀ u, m + 1 ≤ u → u < m' → ¬ Wr E R V own tc H u := by
    intro u h1 h2 hu
    have hd := f3 u h2 hu
    have hd' : L u = true := by
      unfold put1 at hd
      rw [if_neg (by omega)] at hd; exact hd
    rcases F.ord hord hu with h | h | h
    · omega
    · have := anc_lt F.anc _ _ h; omega
    · rw [anc_closed F.anc hcl u m hd' h] at hL; cases hL
  obtain ⟨t, ht⟩ := F.seg hgt f1 hnone
  have hlen1 : (H m).length ≤ (H (m + 1)).length := F.mono (by omega) (by omega)
  have hn0 : R.n0 ≤ (H m).length := by rw [← F.h0]; exact F.mono (by omega) (by omega)
  have hlive : ∀ (b : Nat) (x : Blk), (mem R own H (put1 L m) m')[b]? = some x → x.c ≠ .dead → (H (m + 1))[b]? = some x := by
    intro b x hx hd
    obtain ⟨h1, h2⟩ := mem_live hx hd
    rw [ht] at h1
    by_cases hb : b < (H (m + 1)).length
    · rw [List.getElem?_append_left hb] at h1; exact h1
    · exfalso
      have hbm : b < (H m').length := by rw [ht]; exact (List.getElem?_eq_some_iff.1 h1).1
      obtain ⟨c, g1, g2, g3, g4⟩ := F.maker f1 (by omega) hbm
      have hcm : m + 1 ≤ c := by
        rcases Nat.lt_or_ge c (m + 1) with h | h
        · have := F.mono (show c + 1 ≤ m + 1 by omega) (by omega)
          omega
        · exact h
      unfold visL at h2
      rw [g2] at h2
      have hc : L c = true := by
        have h0 : ¬ b < R.n0 := by omega
        simp only [h0, decide_false, Bool.false_or] at h2
        unfold put1 at h2
        rw [if_neg (by omega)] at h2; exact h2
      rcases F.ord (F.maker_ord (by omega) g3 g4) hwr with h | h | h
      · omega
      · rw [anc_closed F.anc hcl c m hc h] at hL; cases hL
      · have := anc_lt F.anc _ _ h; omega
  have hfresh : ∀ b, (H (m + 1)).length ≤ b → γ b = none := fun b hb => hA.rel.fresh b hb
  have hlen' : (H (m + 1)).length ≤ (H m').length := F.mono hgt f1
  refine hK m' γ _ w' ⟨p1, p2, p3, ⟨?_, ?_, ?_, ?_, hA.rel.glob, ?_⟩, ?_, ?_, ?_, ?_, f1, f2, f3⟩
  · intro b x hx hd
    exact hA.rel.blk b x (hlive b x hx hd) hd
  · intro b b' x x' M M' B X hne hx hx' hM hM' hrw hd hd' ho ho'
    exact hA.rel.disj b b' x x' M M' B X hne (hlive b x hx hd) (hlive b' x' hx' hd') hM hM' hrw hd hd' ho ho'
  · intro b x M hx hM hrw hd
    exact hA.rel.inj b x M (hlive b x hx hd) hM hrw hd
  · intro b hb
    rw [mem_length] at hb
    exact hfresh b (by omega)
  · intro b x M B X hx hrw hd hM ho
    exact hA.rel.gap b x M B X (hlive b x hx hd) hrw hd hM ho
  · intro b h1 h2
    refine hfresh b ?_
    rcases Nat.lt_or_ge b (H (m + 1)).length with hb | hb
    · exfalso
      obtain ⟨j, g1, g2, g3, g4⟩ := F.maker (m := m + 1) (by omega) h1 hb
      rw [g2] at h2
      unfold put1 at h2
      split at h2
      · cases h2
      · rename_i hjm
        have hbm : b < (H m).length := by
          have := F.mono (show j + 1 ≤ m by omega) (by omega)
          omega
        have hv := hvis b hbm
        unfold visL at hv
        rw [g2, h2] at hv
        simp at hv
        omega
    · exact hb
  · intro b hb
    rw [hA.old b (show b < (H m).length by omega)]
    exact I.old b hb
  · exact I.ext.trans hA.ext fun x hx => I.mine x (by rw [hmem]; exact hx)
  · rintro x ⟨b, z, M, hz, hrw, hd, hM, ho⟩
    rcases hA.mine x ⟨b, z, M, hlive b z hz hd, hrw, hd, hM, ho⟩ with h | h
    · exact I.mine x (by rw [hmem]; exact h)
    · exact .inr (Nat.le_trans I.ext.size h)
end
end Go.Proofs.YtoeailachidcdaaGreatDoor.Hg
