import Derived.Test.YtoeailachidcdaaGreatDoorHgDraw3
namespace Go.Proofs.YtoeailachidcdaaGreatDoor.Hg
set_option linter.unusedVariables false
set_option linter.unusedSimpArgs false
set_option linter.unusedSectionVars false
open Go Go.RowKit
variable [Gl : Glob]
section
variable {E : Env} {R : Reg} {V : List AV} {own : List Nat} {tc : List (Option (List Nat))} {H : Nat → Heap}
variable {β0 : Names} {w0 : World} {L : Nat → Bool} {m : Nat} {β : Names} {a : Act} {w : World}
theorem Inv.guardVal (F : Fixed E R V own tc H) (I : Inv E R V own tc H β0 w0 L m β a w) {j : Nat} (hg : R.gOk j = true) (hL : L j = true) {v : AV} (hv : V[j]? = some v) : ∃ d x, gdst R.ops j = some d ∧ a.tmps[d]? = some x ∧ v.rel β x := by
  unfold Reg.gOk at hg
  split at hg
  case h_2 => cases hg
  rename_i d hd
  have hdl : d < R.base.length := by simpa using hg
  have hfl : fillFrom d 0 R.ops = some j := by
    unfold gdst at hd
    rw [Option.bind_eq_some_iff] at hd
    obtain ⟨o, ho, hd⟩ := hd
    have := fillOk_ok F.fill ho hd
    simpa using this
  have := I.val d _ (List.getElem?_eq_getElem hdl)
  unfold slotD at this
  rw [hfl] at this
  simp only [hL, if_true, List.getD_eq_getElem?_getD, hv, Option.getD_some] at this
  have hlt : d < a.tmps.size := by rw [I.len]; exact hdl
  refine ⟨d, a.tmps[d], hd, Array.getElem?_eq_getElem hlt, ?_⟩
  rw [Array.getD_eq_getD_getElem?, Array.getElem?_eq_getElem hlt] at this
  exact this
theorem Inv.step (F : Fixed E R V own tc H) (I : Inv E R V own tc H β0 w0 L m β a w) {i : Nat} {o : Oper} (ho : R.ops[i]? = some o) (hL : L i = false) (hcl : Closed R.ops (fun j => L j = true)) (hrd : ∀ j, Nat.testBit (R.as.getD i 0) j = true → L j = true) {K : Act → World → Prop} {Q : Exit → Act → World → Prop}
    (hK : ∀ m' β' a' w', Inv E R V own tc H β0 w0 (put1 L i) m' β' a' w' → K a' w') : wpOp E.P R.ops.toArray Q i K a w := by
  have hi : i < R.ops.length := (List.getElem?_eq_some_iff.1 ho).1
  have ho' : R.ops.toArray[i]? = some o := by simpa using ho
  unfold wpOp
  rw [ho']
  simp only
  rcases F.told.op i o (by omega) ho with r | r
  · have hw : Region.wanted o (yielded R.ops.toArray a.tmps) = true := by
      cases hg : o.guard with
      | none => simp [Region.wanted, hg]
      | some g =>
        obtain ⟨j, want⟩ := g
        obtain ⟨h1, h2, h3, h4⟩ := r.guard j want hg
        obtain ⟨d, x, g1, g2, g3⟩ := I.guardVal F h3 (hrd j h2) h4
        have g3 : x = .bool want := g3
        subst g3
        unfold gdst at g1
        simp only [Region.wanted, hg, yielded, List.getElem?_toArray, g1, Option.bind_some, g2]
        cases want <;> rfl
    rw [if_pos hw]
    left
    obtain ⟨v, hV, h | h | h⟩ := r.kind
    · obtain ⟨h1, h2, h3, h4⟩ := h
      exact I.writes F ho hL hcl hrd h2 ⟨o, ho, h1, r⟩ hV h3 hK
    · obtain ⟨h1, h2, nb, h3, h4, h5⟩ := h
      exact I.makes F ho hL hcl hrd h2 h1 h5 h4 hV h3 fun β' a' w' => hK m β' a' w'
    · obtain ⟨h1, hno, h2, h3⟩ := h
      have hfl : ∀ (b : Nat) (x : Blk), (R.floated V i o.op (H i))[b]? = some x → x.rw = false ∧ (x.c ≠ .dead → b < (H i).length ∧ ∃ y, (mem R own H L m)[b]? = some y ∧ x.c = y.c ∧ blkBelow (H i).length y = true) := by
        intro b x hx
        unfold Reg.floated at hx
        rw [maskF_get, Option.map_eq_some_iff] at hx
        obtain ⟨y, hy, rfl⟩ := hx
        rw [Nat.zero_add]
        constructor
        · split
          · unfold roB; split <;> rfl
          · rfl
        · intro hd
          split at hd
          · rename_i hm
            rw [if_pos hm]
            have hm' : b ∈ R.fl V i o.op := by simpa using hm
            have hb0 : b < R.n0 := by
              unfold Reg.fl at hm'
              split at hm'
              · simp at hm'; exact hm'.2
              · simp at hm'
            have hcalm : calmB R.as R.ws tc i b = true := by
              have := calmAll_at F.calm ho h1 (by rw [Nat.zero_add]; exact hno) b (by rw [Nat.zero_add]; exact hm')
              rw [Nat.zero_add] at this
              exact this
            have hym : (H m)[b]? = some y := by
              rw [F.calmed hb0 hcalm m I.mle (fun u hu hw => ?_), ← F.calmed hb0 hcalm i (by omega) (fun u hu _ => ?_)]
              · exact hy
              · cases hc : Nat.testBit (R.as.getD u 0) i with
                | false => rfl
                | true => have := anc_lt F.anc _ _ hc; omega
              · cases hc : Nat.testBit (R.as.getD u 0) i with
                | false => rfl
                | true => rw [anc_closed F.anc hcl u i (I.done u hu hw) hc] at hL; cases hL
            unfold roB at hd ⊢
            split at hd
            · rename_i hbl
              rw [if_pos hbl]
              exact ⟨(List.getElem?_eq_some_iff.1 hy).1, y, mem_vis hym (by unfold visL; simp [hb0]), rfl, hbl⟩
            · exact absurd rfl hd
          · exact absurd rfl hd
      have hrel : Rel (cutN β (H i).length) (R.st V i (H i).length (R.floated V i o.op (H i))) a w := by
        refine ⟨?_, I.slots F hL hcl hrd, I.defers, ⟨?_, ?_, ?_, ?_, I.heap.glob, ?_⟩⟩
        · simp only [Reg.st]; rw [slotsAt_length]; exact I.len
        · intro b x hx hd
          obtain ⟨hrw, hl⟩ := hfl b x hx
          obtain ⟨hlt, y, hy, hc, hbl⟩ := hl hd
          obtain ⟨M, hM, hr⟩ := I.heap.blk b y hy (by rw [← hc]; exact hd)
          exact ⟨M, by unfold cutN; rw [if_pos hlt]; exact hM, rel_ro (blkBelow_ok hbl hr) hc hrw⟩
        · intro b b' x x' M M' B X _ hx _ _ _ hrw
          rw [(hfl b x hx).1] at hrw; cases hrw
        · intro b x M hx _ hrw
          rw [(hfl b x hx).1] at hrw; cases hrw
        · intro b hb
          simp only [Reg.st, floated_length] at hb
          unfold cutN; rw [if_neg (by omega)]
        · intro b x M B X hx hrw
          rw [(hfl b x hx).1] at hrw; cases hrw
      refine h2 _ a w hrel K Q fun y w' γ hv hA => ?_
      have hbel : Below w.heap.size w w' := hA.ext.below (not_mine_ro fun b x hx => (hfl b x hx).1)
      have hle : γ.le β := by
        intro b M hb
        by_cases hlt : b < (H i).length
        · rw [hA.old b (by simp only [Reg.st, floated_length]; exact hlt)] at hb
          exact cutN_le b M hb
        · rw [hA.rel.fresh b (by rw [floated_length]; omega)] at hb; cases hb
      have hnw : ¬ Wr E R V own tc H i := by
        rintro ⟨p, hp, hw, _⟩
        rw [ho] at hp; cases hp
        rw [h1] at hw; cases hw
      exact hK m β _ w' (I.quiet F ho h3 hnw hV (AV.rel_le hle hv) hbel)
  · have hw : Region.wanted o (yielded R.ops.toArray a.tmps) = false := by
      obtain ⟨j, want, hg, h1, h2, h3, h4⟩ := r.guard
      rcases h4 with h4 | h4
      · obtain ⟨d, x, g1, g2, g3⟩ := I.guardVal F h3 (hrd j h2) h4
        have g3 : x = .bool (!want) := g3
        subst g3
        unfold gdst at g1
        simp only [Region.wanted, hg, yielded, List.getElem?_toArray, g1, Option.bind_some, g2]
        cases want <;> rfl
      · obtain ⟨d, x, g1, g2, ys, g3, g4⟩ := I.guardVal F h3 (hrd j h2) h4
        cases ys with
        | cons _ _ => exact g4.elim
        | nil =>
          subst g3
          unfold gdst at g1
          simp only [Region.wanted, hg, yielded, List.getElem?_toArray, g1, Option.bind_some, g2]
          cases want <;> rfl
    rw [if_neg (by simp [hw])]
    have hnw : ¬ Wr E R V own tc H i := by
      rintro ⟨p, hp, _, r2⟩
      rw [ho] at hp; cases hp
      obtain ⟨j, want, hg, h1, h2, h3, h4⟩ := r.guard
      have := (r2.guard j want hg).2.2.2
      rw [this] at h4
      rcases h4 with h4 | h4
      · cases want <;> simp at h4
      · simp at h4
    exact hK m β _ w (I.quiet F ho r.mem hnw r.val (y := undef) ⟨[], rfl, trivial⟩ (Below.refl _ _))
theorem count_set : ∀ {l : List Bool} {i : Nat}, l[i]? = some false → (l.set i true).count false + 1 = l.count false
  | [], _, h => by simp at h
  | b :: r, 0, h => by
    simp only [List.getElem?_cons_zero, Option.some.injEq] at h
    subst h
    simp
  | b :: r, i + 1, h => by
    have := count_set (l := r) (i := i) (by simpa using h)
    simp only [List.set_cons_succ, List.count_cons]
    omega
theorem ready_mem {ops : List Oper} {listed : Array Bool} {i : Nat} : i ∈ Region.ready .any ops.toArray listed ↔ ∃ o, ops[i]? = some o ∧ listed.getD i true = false ∧ ∀ e ∈ o.after.toList, binds e = true → listed.getD e.on false = true := by
  unfold Region.ready
  rw [List.mem_filter, List.mem_range]
  simp only [List.size_toArray, List.getElem?_toArray, Bool.and_eq_true, Bool.not_eq_true']
  constructor
  · rintro ⟨h1, h2, h3⟩
    rw [List.getElem?_eq_getElem h1] at h3
    refine ⟨_, List.getElem?_eq_getElem h1, h2, fun e he hb => ?_⟩
    simp only [Option.map_some, Option.getD_some] at h3
    rw [← Array.all_toList, List.all_eq_true] at h3
    have := h3 e he
    unfold binds at hb
    simpa [hb] using this
  · rintro ⟨o, h1, h2, h3⟩
    refine ⟨(List.getElem?_eq_some_iff.1 h1).1, h2, ?_⟩
    rw [h1]
    simp only [Option.map_some, Option.getD_some]
    rw [← Array.all_toList, List.all_eq_true]
    intro e he
    cases hb : binds e with
    | false => unfold binds at hb; simp [hb]
    | true => rw [h3 e he hb]; simp
theorem any_ok (F : Fixed E R V own tc H) {Q : Exit → Act → World → Prop} (hQ : ∀ L m β a w, (∀ i, i < R.ops.length → L i = true) → Inv E R V own tc H β0 w0 L m β a w → Q .normal a w) :
    ∀ (fuel : Nat) (listed : Array Bool) (m : Nat) (β : Names) (a : Act) (w : World), listed.size = R.ops.length → listed.toList.count false ≤ fuel → Closed R.ops (fun j => listed.getD j false = true) →
      Inv E R V own tc H β0 w0 (fun j => listed.getD j false) m β a w → wpAny E.P .any R.ops.toArray Q fuel listed a w := by
  have hend : ∀ (listed : Array Bool) (m : Nat) (β : Names) (a : Act) (w : World), listed.size = R.ops.length → Region.ready .any R.ops.toArray listed = [] → Inv E R V own tc H β0 w0 (fun j => listed.getD j false) m β a w → Q .normal a w := by
    intro listed m β a w hs hr hI
    refine hQ _ m β a w (fun i => ?_) hI
    induction i using Nat.strongRecOn with
    | ind i ih =>
      intro hi
      cases hc : listed.getD i false with
      | true => rfl
      | false =>
        exfalso
        obtain ⟨o, ho, h1, _⟩ := anc_at F.anc hi
        have : i ∈ Region.ready .any R.ops.toArray listed := ready_mem.2 ⟨o, ho, by
          rw [Array.getD_eq_getD_getElem?, Array.getElem?_eq_getElem (by omega)] at hc ⊢
          exact hc, fun e he hb => ih e.on (h1 e he hb) (by have := h1 e he hb; omega)⟩
        rw [hr] at this
        cases this
  intro fuel
  induction fuel with
  | zero =>
    intro listed m β a w hs hc hcl hI
    have hr : Region.ready .any R.ops.toArray listed = [] := by
      apply List.eq_nil_iff_forall_not_mem.2
      intro i hi
      obtain ⟨o, ho, h1, _⟩ := ready_mem.1 hi
      have hlt : i < listed.size := by rw [hs]; exact (List.getElem?_eq_some_iff.1 ho).1
      rw [Array.getD_eq_getD_getElem?, Array.getElem?_eq_getElem hlt] at h1
      have hm : false ∈ listed.toList := by
        have : listed[i] ∈ listed.toList := by simp
        simp only [Option.getD_some] at h1
        rw [h1] at this; exact this
      have := List.count_pos_iff.2 hm
      omega
    exact ⟨hr, hend listed m β a w hs hr hI⟩
  | succ fuel ih =>
    intro listed m β a w hs hc hcl hI
    refine ⟨fun hr => hend listed m β a w hs hr hI, fun i hi => ?_⟩
    obtain ⟨o, ho, h1, h2⟩ := ready_mem.1 hi
    have hlt : i < listed.size := by rw [hs]; exact (List.getElem?_eq_some_iff.1 ho).1
    rw [Array.getD_eq_getD_getElem?, Array.getElem?_eq_getElem hlt] at h1
    simp only [Option.getD_some] at h1
    have hL : (fun j => listed.getD j false) i = false := by
      show listed.getD i false = false
      rw [Array.getD_eq_getD_getElem?, Array.getElem?_eq_getElem hlt]; exact h1
    have hput : put1 (fun j => listed.getD j false) i = fun j => (listed.setIfInBounds i true).getD j false := by
      funext j
      unfold put1
      by_cases hji : j = i
      · subst hji
        rw [if_pos rfl, Array.getD_eq_getD_getElem?, Array.getElem?_setIfInBounds_self]
        simp [hlt]
      · rw [if_neg hji]
        show listed.getD j false = _
        rw [Array.getD_eq_getD_getElem?, Array.getD_eq_getD_getElem?, Array.getElem?_setIfInBounds_ne (fun e => hji e.symm)]
    refine hI.step F ho hL hcl (fun j hj => anc_ready F.anc hcl ho h2 hj) fun m' β' a' w' hI' => ?_
    rw [hput] at hI'
    refine ih _ m' β' a' w' (by simpa using hs) ?_ ?_ hI'
    · have hl : listed.toList[i]? = some false := by
        rw [List.getElem?_eq_getElem (by simpa using hlt)]
        simp [h1]
      have := count_set hl
      rw [Array.toList_setIfInBounds]
      omega
    · intro j p hp hj e he hb
      have hput' : ∀ j, (listed.setIfInBounds i true).getD j false = put1 (fun j => listed.getD j false) i j := fun j => by rw [hput]
      show (listed.setIfInBounds i true).getD e.on false = true
      have hj : (listed.setIfInBounds i true).getD j false = true := hj
      rw [hput'] at hj ⊢
      have key : listed.getD e.on false = true := by
        unfold put1 at hj
        split at hj
        · rename_i hji
          subst hji
          rw [ho] at hp; cases hp
          exact h2 e he hb
        · exact hcl j p hp hj e he hb
      unfold put1
      split
      · rfl
      · exact key
theorem xregion_ok {ρ : Type} {E : Env} {ents : List FuncId} (hE : EnvOk E ents) (m : Nat) {ops : List Oper} {s : St} {k : St → Option ρ} {r : ρ} (h : xregion E ents ops s k = some r) :
    ∃ s', k s' = some r ∧ ∀ (β : Names) (a : Act) (w : World) (Q : Exit → Act → World → Prop), Rel β s a w → (∀ a' w' γ, Rel γ s' a' w' → Goes m β γ s.h s'.h w w' → Q .normal a' w') → wpAny E.P .any ops.toArray Q ops.length (Array.replicate ops.length false) a w := by
  unfold xregion at h
  split at h
  case h_1 => cases h
  rename_i as has
  split at h
  case isFalse => cases h
  rename_i hfill
  obtain ⟨V, own, tc, H, h1, _, h3, _, _, h5, h6, h7⟩ := xdraw_ok hE (R := ⟨ops, as, writers E 0 ops, s.h.length, s.t⟩) (l := ops) (i := 0) (vals := []) (own := []) (tc := []) (h := s.h) (by simp) (by simp) rfl rfl (by simp) h
  have F : Fixed E ⟨ops, as, writers E 0 ops, s.h.length, s.t⟩ V own tc H := ⟨has, hfill, rfl, h6, by rw [h5], h3, h7⟩
  refine ⟨_, h1, fun β a w Q hr hQ => ?_⟩
  have hno : ∀ j, (Array.replicate ops.length false).getD j false = false := by
    intro j
    rw [Array.getD_eq_getD_getElem?, Array.getElem?_replicate]
    split <;> rfl
  obtain ⟨m0, f1, f2, f3⟩ := F.front (fun j => (Array.replicate ops.length false).getD j false) ops.length
  have hnone : ∀ u, 0 ≤ u → u < m0 → ¬ Wr E ⟨ops, as, writers E 0 ops, s.h.length, s.t⟩ V own tc H u := by
    intro u _ h2 hu
    have := f3 u h2 hu
    rw [hno] at this; cases this
  obtain ⟨t, ht⟩ := F.seg (Nat.zero_le m0) f1 hnone
  rw [h5] at ht
  have hlive : ∀ (b : Nat) (x : Blk), (mem ⟨ops, as, writers E 0 ops, s.h.length, s.t⟩ own H (fun j => (Array.replicate ops.length false).getD j false) m0)[b]? = some x → x.c ≠ .dead → s.h[b]? = some x := by
    intro b x hx hd
    obtain ⟨g1, g2⟩ := mem_live hx hd
    unfold visL at g2
    simp only [hno, Bool.or_false] at g2
    have : b < s.h.length := by simpa using g2
    rw [ht, List.getElem?_append_left this] at g1
    exact g1
  refine any_ok F (β0 := β) (w0 := w) (fun L m' γ a' w' hall hI => ?_) ops.length _ m0 β a w (by simp) ?_ ?_ ⟨hr.len, hr.defers, ?_, ⟨?_, ?_, ?_, ?_, hr.heap.glob, fun b x M B X hx hrw hd hM ho => hr.heap.gap b x M B X (hlive b x hx hd) hrw hd hM ho⟩, ?_, fun _ _ => rfl, Ext.refl _ _, ?_, f1, f2, f3⟩
  · have hm' : m' = ops.length := by
      rcases hI.front with g | ⟨g1, g2⟩
      · exact g
      · obtain ⟨o, go, _⟩ := g1
        rw [hall m' (List.getElem?_eq_some_iff.1 go).1] at g2; cases g2
    subst hm'
    have hmem : mem ⟨ops, as, writers E 0 ops, s.h.length, s.t⟩ own H L ops.length = H ops.length := by
      apply List.ext_getElem?
      intro b
      rw [mem_get]
      cases hb : (H ops.length)[b]? with
      | none => rfl
      | some x =>
        have hv : visL ⟨ops, as, writers E 0 ops, s.h.length, s.t⟩ own L b = true := by
          unfold visL
          by_cases h0 : b < s.h.length
          · simp [h0]
          · obtain ⟨j, g1, g2, _, _⟩ := F.maker (m := ops.length) (Nat.le_refl _) (show s.h.length ≤ b by omega) (List.getElem?_eq_some_iff.1 hb).1
            simp only at g2 ⊢
            rw [g2, hall j g1]; simp
        simp [hv]
    refine hQ a' w' γ ⟨?_, ?_, hI.defers, by rw [← hmem]; exact hI.heap⟩ ⟨fun hm b hb => hI.old b (show b < s.h.length by omega), fun hm => ?_, ?_, ?_⟩
    · rw [slotsEnd_length]; exact hI.len
    · intro t v hv
      simp only at hv
      rw [slotsEnd_get, Option.map_eq_some_iff] at hv
      obtain ⟨u, hu, rfl⟩ := hv
      have := hI.val t u hu
      unfold slotD at this
      rw [Nat.zero_add]
      unfold slotE
      split
      · rename_i hf
        simp only at this
        rw [hf] at this; exact this
      · rename_i j hf
        simp only at this
        rw [hf] at this
        obtain ⟨_, p, hp, _⟩ := fillFrom_spec hf
        simp only [hall j (by have := (List.getElem?_eq_some_iff.1 hp).1; simpa using this), if_true] at this
        exact this
    · have := F.mono (Nat.zero_le ops.length) (Nat.le_refl _)
      rw [h5] at this
      exact Nat.le_trans hm this
    · have := hI.ext; rw [h5] at this; exact this
    · have := hI.mine; rw [hmem, h5] at this; exact this
  · simp
  · intro i o _ hi
    have hi : (Array.replicate ops.length false).getD i false = true := hi
    rw [hno] at hi; cases hi
  · intro t u hu
    unfold slotD
    have := hr.val t u hu
    split
    · exact this
    · simp only [hno, Bool.false_eq_true, if_false]; exact this
  · intro b x hx hd
    exact hr.heap.blk b x (hlive b x hx hd) hd
  · intro b b' x x' M M' B X hne hx hx' hM hM' hrw hd hd' ho ho'
    exact hr.heap.disj b b' x x' M M' B X hne (hlive b x hx hd) (hlive b' x' hx' hd') hM hM' hrw hd hd' ho ho'
  · intro b x M hx hM hrw hd
    exact hr.heap.inj b x M (hlive b x hx hd) hM hrw hd
  · intro b hb
    rw [mem_length, ht] at hb
    exact hr.heap.fresh b (by simp at hb; omega)
  · intro b hb _
    exact hr.heap.fresh b hb
  · rintro x ⟨b, z, M, hz, hrw, hd, hM, ho⟩
    refine .inl ⟨b, z, M, ?_, hrw, hd, hM, ho⟩
    rw [h5]
    exact hlive b z hz hd
end
end Go.Proofs.YtoeailachidcdaaGreatDoor.Hg
