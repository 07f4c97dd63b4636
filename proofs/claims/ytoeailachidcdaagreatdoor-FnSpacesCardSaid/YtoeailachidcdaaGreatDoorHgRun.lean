import Derived.Test.YtoeailachidcdaaGreatDoorHgAppend
namespace Go.Proofs.YtoeailachidcdaaGreatDoor.Hg
set_option linter.unusedVariables false
set_option linter.unusedSimpArgs false
set_option linter.unusedSectionVars false
open Go Go.RowKit
variable [Gl : Glob]
section
variable {ρ : Type}
def entersB (P : Program) (f : FuncId) : Bool :=
  match P.funcs[f]? with
  | some fn => fn.name != "runtime.NumGoroutine" && fn.body.isSome
  | none => false
structure EnvOk (E : Env) (ents : List FuncId) : Prop where
  lays : laysOk E.P E.lays = true
  ents : ents.all (entersB E.P) = true
  spec : SpecOK E
  mixed : E.P.follows .mixedOrders = true
def xstep (E : Env) (ents : List FuncId) (s : St) (op : Op) (k : AV → Heap → Option ρ) : Option ρ :=
  match op with
  | .store t a x => (match xstore E s.h t (s.ev a) (s.ev x) with | some h' => k .any h' | none => none)
  | .call ⟨.value f, args, _⟩ => (match s.ev f with
    | .fn g m caps => if ents.contains g = true then xcall E g ((caps.take m).map .sptr ++ (args.toList.map s.ev ++ (caps.drop m).map .sptr)) s.h k else none
    | _ => none)
  | .call ⟨.builtin .append, args, ts⟩ => (match args.toList, ts.toList with
    | [a, x], [t, tx] => xappendN E s.h t tx (s.ev a) (s.ev x) k
    | _, _ => none)
  | op => xq E s op (fun v nb => match nb with | [] => k v s.h | b :: nb' => k v (s.h ++ b :: nb'))
def StepOk (E : Env) (β : Names) (s : St) (o : Oper) (a : Act) (w : World) (v : AV) (h' : Heap) : Prop :=
  ∀ (K : Act → World → Prop) (Q : Exit → Act → World → Prop), (∀ y w' γ, v.rel γ y → After β γ s.h h' w w' → K (a.put o.dst y) w') → o.wp E.P a w K Q
theorem after_quiet {β γ : Names} {h nb : Heap} {w w' : World} (hr : HRel β h w) (h1 : NewOk β γ h.length nb w w') (h2 : Below w.heap.size w w') : After β γ h (h ++ nb) w w' where
  len := by simp
  le := h1.le hr.fresh
  old := h1.old
  rel := hr.grow h1 h2
  ext := .of_below h2
  mine := by
    rintro a ⟨b, x, L, hx, hrw, hd, hL, ho⟩
    rcases Nat.lt_or_ge b h.length with hlt | hge
    · rw [List.getElem?_append_left hlt] at hx
      rw [h1.old b hlt] at hL
      exact .inl ⟨b, x, L, hx, hrw, hd, hL, ho⟩
    · rw [List.getElem?_append_right hge] at hx
      obtain ⟨M, hM, _, _, hsz, _⟩ := h1.blk _ x hx
      rw [show h.length + (b - h.length) = b by omega, hL] at hM
      cases hM
      exact .inr (hsz _ _ ho)
theorem wp_of_next {P : Program} {o : Oper} {a : Act} {w : World} {K : Act → World → Prop} {Q : Exit → Act → World → Prop} {y : Value} {w' : World} (h : (execOp a.eval o).run P w = .ok (.value y) w') (hk : K (a.put o.dst y) w') : o.wp P a w K Q := by
  unfold Oper.wp
  rw [h]
  exact hk
theorem all2_append {α γ : Type} {R : α → γ → Prop} : ∀ {as bs : List α} {cs ds : List γ}, all2 R as cs → all2 R bs ds → all2 R (as ++ bs) (cs ++ ds)
  | [], _, [], _, _, h => h
  | _ :: _, _, _ :: _, _, ⟨h1, h2⟩, h => ⟨h1, all2_append h2 h⟩
  | [], _, _ :: _, _, h, _ => h.elim
  | _ :: _, _, [], _, h, _ => h.elim
theorem args_rel {β : Names} {s : St} {a : Act} {w : World} (hr : Rel β s a w) : ∀ xs : List Operand, all2 (AV.rel β) (xs.map s.ev) (xs.map a.eval)
  | [] => trivial
  | x :: xs => ⟨hr.ev x, args_rel hr xs⟩
theorem caps_rel {β : Names} : ∀ {cs : List (List (Nat × Nat))} {vs : List Value}, all2 (ptrRel β) cs vs → all2 (AV.rel β) (cs.map .sptr) vs
  | [], [], _ => trivial
  | _ :: _, _ :: _, ⟨h1, h2⟩ => ⟨h1, caps_rel h2⟩
  | [], _ :: _, h => h.elim
  | _ :: _, [], h => h.elim
def writesB (E : Env) (s : St) : Op → Bool
  | .store .. => true
  | .call ⟨.value f, _, _⟩ => (match s.ev f with | .fn g _ _ => !(E.wr g).all (! ·) | _ => true)
  | .call ⟨.builtin .append, _, _⟩ => true
  | _ => false
def avIds : AV → List Nat
  | .ptr b _ _ => [b]
  | .sptr bs => bs.map (·.1)
  | _ => []
def rowIds : AV → List Nat
  | .slice _ b _ _ _ _ => [b]
  | _ => []
def storeIds (h : Heap) (x v : AV) : List Nat := match x with
  | .ptr b _ _ => (match h[b]? with | some ⟨_, .hdr p ..⟩ => b :: p :: rowIds v | _ => [b])
  | x => avIds x
def apIds (h : Heap) (x y : AV) : Option (List Nat) := match x with
  | .slice _ b _ _ _ _ => (match h[b]? with
    | some ⟨_, .hdr p ..⟩ => (match y with
      | .slice _ bs os _ _ _ => (match h[bs]? with
        | some ⟨_, .avs vs⟩ => (match vs[os]? with | some v => some (b :: p :: rowIds v) | none => none)
        | _ => none)
      | _ => none)
    | _ => some [b])
  | .nils => (match rowKind h y with | some (_, v) => some (rowIds v) | none => some [])
  | _ => some []
def touchIds (s : St) : Op → Option (List Nat)
  | .store _ a x => some (storeIds s.h (s.ev a) (s.ev x))
  | .call ⟨.builtin .append, args, _⟩ => (match args.toList with | [a, x] => apIds s.h (s.ev a) (s.ev x) | _ => none)
  | _ => none
theorem scatter_other {c : Nat} : ∀ {bs : List (Nat × Nat)} {rs : List Run} {h h' : Heap}, scatter h bs rs = some h' → c ∉ bs.map (·.1) → h'[c]? = h[c]?
  | [], [], h, h', hs, _ => by simp [scatter] at hs; rw [hs]
  | [], _ :: _, _, _, hs, _ => by simp [scatter] at hs
  | _ :: _, [], _, _, hs, _ => by simp [scatter] at hs
  | (b, n) :: bs, r :: rs, h, h', hs, hc => by
    simp only [List.map_cons, List.mem_cons, not_or] at hc
    simp only [scatter] at hs
    split at hs
    · split at hs
      · rw [scatter_other hs hc.2, List.getElem?_set_ne (fun e => hc.1 e.symm)]
      · cases hs
    · cases hs
theorem foldRow_other {h h1 : Heap} {b : Nat} {v : AV} {off len : Nat} {cap : Cap} (hf : foldRow h b v = some (h1, off, len, cap)) {c : Nat} (hc : c < h.length) (hb : c ≠ b) (hp : ∀ rw p n q of ln cp, h[b]? = some ⟨rw, .hdr p n q of ln cp⟩ → c ≠ p) (hv : c ∉ rowIds v) : h1[c]? = h[c]? := by
  unfold foldRow at hf
  split at hf
  · rename_i rw p n q of ln cp hbb
    have hcp := hp _ _ _ _ _ _ _ hbb
    split at hf
    · cases hf; rfl
    · rename_i nn b' o' len' cap'
      simp only [rowIds, List.mem_singleton] at hv
      split at hf
      · cases hf; rfl
      · split at hf
        · split at hf
          · split at hf
            · simp only [Option.some.injEq, Prod.mk.injEq] at hf
              obtain ⟨rfl, _⟩ := hf
              rw [List.getElem?_append_left (by rw [List.length_set, kills_length]; exact hc), List.getElem?_set_ne (fun e => hb e.symm), kills_get (by simp; exact ⟨hcp, hv⟩)]
            · cases hf
          · cases hf
        · cases hf
    · cases hf
  · cases hf
theorem foldRow_length {h h1 : Heap} {b : Nat} {v : AV} {off len : Nat} {cap : Cap} (hf : foldRow h b v = some (h1, off, len, cap)) : h.length ≤ h1.length := by
  unfold foldRow at hf
  split at hf
  · split at hf
    · cases hf; exact Nat.le_refl _
    · split at hf
      · cases hf; exact Nat.le_refl _
      · split at hf
        · split at hf
          · split at hf
            · simp only [Option.some.injEq, Prod.mk.injEq] at hf
              obtain ⟨rfl, _⟩ := hf
              simp [kills_length]
            · cases hf
          · cases hf
        · cases hf
    · cases hf
  · cases hf
theorem xstore_other {E : Env} {h h' : Heap} {t : TypeId} {x v : AV} (hx : xstore E h t x v = some h') {c : Nat} (hlt : c < h.length) (hc : c ∉ storeIds h x v) : h'[c]? = h[c]? := by
  have hcb : ∀ b o m, x = .ptr b o m → c ≠ b := by
    rintro b o m rfl
    simp only [storeIds] at hc
    split at hc
    · simp only [List.mem_cons, not_or] at hc; exact hc.1
    · simpa using hc
  have hcs : ∀ bs, x = .sptr bs → c ∉ bs.map (·.1) := by
    rintro bs rfl
    exact hc
  have ep : ∀ b o m (z : Blk), x = .ptr b o m → (h.set b z)[c]? = h[c]? := fun b o m z hb => List.getElem?_set_ne (fun e => hcb b o m hb e.symm)
  have es : ∀ b n (z : Blk), x = .sptr [(b, n)] → (h.set b z)[c]? = h[c]? := fun b n z hb => List.getElem?_set_ne (fun e => hcs _ hb (by simp [e]))
  unfold xstore at hx
  split at hx
  · split at hx
    · split at hx
      · split at hx
        · split at hx
          · split at hx
            · cases hx; exact ep _ _ _ _ rfl
            · cases hx
          · cases hx
        · split at hx
          · split at hx
            · cases hx; exact es _ _ _ rfl
            · cases hx
          · cases hx
        · cases hx
      · cases hx
    · cases hx
  · split at hx
    · split at hx
      · split at hx
        · split at hx
          · split at hx
            · cases hx; exact ep _ _ _ _ rfl
            · cases hx
          · cases hx
        · split at hx
          · exact scatter_other hx (hcs _ rfl)
          · cases hx
        · cases hx
      · cases hx
    · cases hx
  · split at hx
    · split at hx
      · split at hx
        · exact scatter_other hx (hcs _ rfl)
        · cases hx
      · cases hx
    · cases hx
  · cases hx
  · split at hx
    · split at hx
      · split at hx
        · split at hx
          · cases hx; exact es _ _ _ rfl
          · cases hx
        · cases hx
      · cases hx
    · cases hx
  · cases hx
  · cases hx
  · split at hx
    · split at hx
      · split at hx
        · split at hx
          · cases hx; exact es _ _ _ rfl
          · cases hx
        · cases hx
      · rename_i b o m
        split at hx
        · split at hx
          · cases hx; exact ep _ _ _ _ rfl
          · cases hx
        · split at hx
          · split at hx
            · cases hx; exact ep _ _ _ _ rfl
            · cases hx
          · cases hx
        · rename_i p0 n0 q0 of0 ln0 cp0 hb
          split at hx
          · split at hx
            · rename_i h1 off len cap hf
              split at hx
              · cases hx
                have hne := hcb b o m rfl
                rw [List.getElem?_set_ne (fun e => hne e.symm)]
                simp only [storeIds, hb, List.mem_cons, not_or] at hc
                refine foldRow_other hf hlt hne (fun rw p n q of ln cp hb2 => ?_) hc.2.2
                rw [hb] at hb2
                cases hb2
                exact hc.2.1
              · cases hx
            · cases hx
          · cases hx
        · cases hx
      · cases hx
    · cases hx
theorem xappend_other {E : Env} {h : Heap} {t tx : TypeId} {x y : AV} {k : AV → Heap → Option ρ} {r : ρ} (hx : xappend E h t tx x y k = some r) :
    ∃ v h', k v h' = some r ∧ ∀ T, apIds h x y = some T → ∀ c, c < h.length → c ∉ T → h'[c]? = h[c]? := by
  unfold xappend at hx
  split at hx
  · split at hx
    · split at hx
      · split at hx
        · split at hx
          · exact ⟨_, _, hx, fun T _ c hc _ => List.getElem?_append_left hc⟩
          · cases hx
        · exact ⟨_, _, hx, fun T _ c hc _ => rfl⟩
        · cases hx
      · rename_i nn b o len cap esz'
        split at hx
        · split at hx
          · cases hx
          · split at hx
            · split at hx
              · split at hx
                · exact ⟨_, _, hx, fun T _ c hc _ => List.getElem?_append_left hc⟩
                · cases hx
              · cases hx
            · split at hx
              · split at hx
                · rename_i m f hb
                  split at hx
                  · split at hx
                    · split at hx
                      · refine ⟨_, _, hx, fun T hT c hc hn => ?_⟩
                        simp only [apIds, hb, Option.some.injEq] at hT
                        subst hT
                        rw [List.getElem?_append_left (by rw [kills_length]; exact hc), kills_get hn]
                      · cases hx
                    · cases hx
                  · cases hx
                · cases hx
              · cases hx
          · split at hx
            · split at hx
              · rename_i m f hb
                split at hx
                · split at hx
                  · split at hx
                    · refine ⟨_, _, hx, fun T hT c hc hn => ?_⟩
                      simp only [apIds, hb, Option.some.injEq] at hT
                      subst hT
                      rw [List.getElem?_append_left (by rw [kills_length]; exact hc), kills_get hn]
                    · cases hx
                  · cases hx
                · exact ⟨_, _, hx, fun T _ c hc _ => rfl⟩
                · cases hx
              · rename_i p0 n0 q0 of0 ln0 cp0 hb
                split at hx
                · rename_i nn2 bs os n cap2
                  split at hx
                  · split at hx
                    · rename_i rw2 vs hbs
                      split at hx
                      · rename_i v hv
                        split at hx
                        · rename_i h1 off ln1 cap1 hf
                          split at hx
                          · split at hx
                            · refine ⟨_, _, hx, fun T hT c hc hn => ?_⟩
                              simp only [apIds, hb, hbs, hv, Option.some.injEq] at hT
                              subst hT
                              simp only [List.mem_cons, not_or] at hn
                              have := foldRow_length hf
                              rw [List.getElem?_append_left (by rw [kills_length]; omega), kills_get (by simpa using hn.1)]
                              refine foldRow_other hf hc hn.1 (fun rw p n q of ln cp hb2 => ?_) hn.2.2
                              rw [hb] at hb2
                              cases hb2
                              exact hn.2.1
                            · cases hx
                          · cases hx
                        · cases hx
                      · cases hx
                    · cases hx
                  · cases hx
                · cases hx
              · cases hx
            · cases hx
        · cases hx
      · cases hx
    · cases hx
  · cases hx
theorem xappendN_other {E : Env} {h : Heap} {t tx : TypeId} {x y : AV} {k : AV → Heap → Option ρ} {r : ρ} (hx : xappendN E h t tx x y k = some r) :
    ∃ v h', k v h' = some r ∧ ∀ T, apIds h x y = some T → ∀ c, c < h.length → c ∉ T → h'[c]? = h[c]? := by
  unfold xappendN at hx
  split at hx
  · rename_i kd v hk
    obtain ⟨v2, h', h1, h2⟩ := xappend_other hx
    refine ⟨v2, h', h1, fun T hT c hc hn => ?_⟩
    simp only [apIds, hk, Option.some.injEq] at hT
    subst hT
    have hr := hk
    unfold rowKind at hr
    split at hr
    · rename_i nn bs os n cap e
      split at hr
      · rename_i rw vs hbs
        split at hr
        · rename_i nn2 b o n2 cap2 e2 hv
          split at hr
          · cases hr
            have hlt : bs < h.length := (List.getElem?_eq_some_iff.1 hbs).1
            have e1 : apIds (pushHdr h kd) (.slice false (h.length + 1) 0 0 .whole 1) (.slice nn bs os n cap e) = some ((h.length + 1) :: h.length :: rowIds (.slice nn2 b o n2 cap2 e2)) := by
              simp only [apIds, pushHdr_at, pushHdr_old hlt, hbs, hv]
            rw [h2 _ e1 c (by rw [pushHdr_length]; omega) (by simp only [List.mem_cons, not_or]; exact ⟨by omega, by omega, hn⟩), pushHdr_old hc]
          · cases hr
        · cases hr
      · cases hr
    · cases hr
  · rename_i hno
    obtain ⟨v2, h', h1, h2⟩ := xappend_other hx
    exact ⟨v2, h', h1, h2⟩
theorem xstep_ok {E : Env} {ents : List FuncId} (hE : EnvOk E ents) {s : St} {op : Op} {k : AV → Heap → Option ρ} {r : ρ} (hx : xstep E ents s op k = some r) :
    ∃ v h', k v h' = some r ∧ ((writesB E s op = false → ∃ nb, h' = s.h ++ nb) ∧ (∀ T, touchIds s op = some T → ∀ b, b < s.h.length → b ∉ T → h'[b]? = s.h[b]?)) ∧ ∀ (dst : Option Tmp) (ty : TypeId) (pos : String) (af : Array Edge) (g : Option (Nat × Bool)) (β : Names) (a : Act) (w : World), Rel β s a w → StepOk E β s ⟨dst, op, ty, pos, af, g⟩ a w v h' := by
  unfold xstep at hx
  split at hx
  · rename_i t x y
    split at hx
    · rename_i h' hs
      refine ⟨_, _, hx, ⟨fun h => by simp [writesB] at h, fun T hT b hlt hb => by cases hT; exact xstore_other hs hlt hb⟩, fun dst ty pos af g β a w hr K Q hK => ?_⟩
      obtain ⟨w', γ, h1, h2⟩ := xstore_ok hE.lays hs hr.heap (hr.ev x) (hr.ev y)
      unfold Oper.wp
      have : (execOp a.eval ⟨dst, .store t x y, ty, pos, af, g⟩).run E.P w = .ok .skip w' := by simp [execOp, h1]
      rw [this]
      exact hK undef w' γ trivial h2
    · cases hx
  · rename_i f args ts
    split at hx
    · rename_i g m caps hf
      split at hx
      · rename_i hen
        obtain ⟨v, h', h1, h2, h3⟩ := xcall_ok hE.spec hx
        refine ⟨v, h', h1, ⟨fun hw => h2 (by simp [writesB, hf] at hw; simpa using hw), fun T hT => by cases hT⟩, fun dst ty pos af gd β a w hr K Q hK => ?_⟩
        have hfv := hr.ev f
        rw [hf] at hfv
        obtain ⟨vs, hv1, hv2⟩ := hfv
        have hent : entersB E.P g = true := by
          have := List.all_eq_true.1 hE.ents g (by simpa using hen)
          exact this
        unfold entersB at hent
        split at hent
        · rename_i fn hfn
          simp only [Bool.and_eq_true, bne_iff_ne, ne_eq] at hent
          have hrun : (execOp a.eval ⟨dst, .call ⟨.value f, args, ts⟩, ty, pos, af, gd⟩).run E.P w = .ok (.enter g (vs.take m ++ ((args.toList.map a.eval) ++ vs.drop m)).toArray) w := by
            have hb : fn.body.isNone = false := by simpa using hent.2
            have hn : (fn.name == "runtime.NumGoroutine") = false := by simpa using hent.1
            simp only [execOp, resolve, hv1, Deferred.ofValue, invoke, Sem.run_bind, Sem.run_pure, Result.andThen_ok, callFunc, run_program, hfn, hn, hb]
            simp
          unfold Oper.wp
          rw [hrun]
          refine (h3 β w _ hr.heap (all2_append (caps_rel (all2_take m hv2)) (all2_append (args_rel hr _) (caps_rel (all2_drop m hv2))))).mono ?_
          rintro e w' ⟨γ, y, rfl, e1, e2⟩
          exact hK y w' γ e1 e2
        · cases hent
      · cases hx
    · cases hx
  · rename_i args ts
    split at hx
    · rename_i a x t tx ha ht
      rw [xappendN_bind] at hx
      cases hp : xappendN E s.h t tx (s.ev a) (s.ev x) (fun v h' => some (v, h')) with
      | none => rw [hp] at hx; cases hx
      | some p =>
        rw [hp] at hx
        obtain ⟨v, h', h1, h2⟩ := xappendN_ok hE.lays hp
        obtain ⟨v2, h2', g1, g2⟩ := xappendN_other hp
        cases h1
        cases g1
        refine ⟨v, h', hx, ⟨fun hw => by simp [writesB] at hw, fun T hT c hlt hc => g2 T (by simpa [touchIds, ha] using hT) c hlt hc⟩, fun dst ty pos af g β a' w hr K Q hK => ?_⟩
        obtain ⟨z, w', γ, e1, e2, e3⟩ := h2 β w (a'.eval a) (a'.eval x) ty hr.heap (hr.ev a) (hr.ev x)
        refine wp_of_next ?_ (hK z w' γ e2 e3)
        have ea : args = #[a, x] := by apply Array.toList_inj.1; exact ha
        have et : ts = #[t, tx] := by apply Array.toList_inj.1; exact ht
        subst ea; subst et
        simp [execOp, resolve, invoke, builtin, e1]
    · cases hx
  · obtain ⟨v, nb, h1, h2⟩ := xq_ok hE.lays hx
    have h1 : k v (s.h ++ nb) = some r := by
      cases nb with
      | nil => simpa using h1
      | cons _ _ => exact h1
    refine ⟨v, _, h1, ⟨fun _ => ⟨nb, rfl⟩, fun T _ b hlt _ => List.getElem?_append_left hlt⟩, fun dst ty pos af g β a w hr K Q hK => ?_⟩
    obtain ⟨y, w', γ, e1, e2, e3, e4⟩ := h2 dst ty pos af g β a w hr
    exact wp_of_next e1 (hK y w' γ e2 (after_quiet hr.heap e3 e4))
def setSlot (t : List AV) (dst : Option Tmp) (v : AV) : List AV := match dst with | some d => t.set d v | none => t
theorem Rel.put {β γ : Names} {s : St} {a : Act} {w w' : World} (r : Rel β s a w) (hle : β.le γ) {dst : Option Tmp} {v : AV} {y : Value} (hv : v.rel γ y) {h' : Heap} (hh : HRel γ h' w') : Rel γ ⟨setSlot s.t dst v, h'⟩ (a.put dst y) w' where
  len := by
    have := r.len
    cases dst <;> simp [setSlot, Act.put, this]
  val := by
    intro i u hu
    cases dst with
    | none => exact AV.rel_le hle (r.val i u hu)
    | some d =>
      simp only [setSlot] at hu
      have hlen := r.len
      by_cases hid : i = d
      · subst hid
        have hlt : i < s.t.length := by
          have := (List.getElem?_eq_some_iff.1 hu).1
          simpa using this
        rw [List.getElem?_set_self hlt] at hu
        obtain rfl : v = u := by simpa using hu
        have : (a.put (some i) y).tmps.getD i undef = y := by
          simp only [Act.put, Array.getD_eq_getD_getElem?]
          rw [Array.getElem?_setIfInBounds_self]
          simp [hlen, hlt]
        rw [this]; exact hv
      · rw [List.getElem?_set_ne (fun e => hid e.symm)] at hu
        have : (a.put (some d) y).tmps.getD i undef = a.tmps.getD i undef := by
          simp only [Act.put, Array.getD_eq_getD_getElem?]
          rw [Array.getElem?_setIfInBounds_ne (fun e => hid e.symm)]
        rw [this]
        exact AV.rel_le hle (r.val i u hu)
  defers := by have := r.defers; cases dst <;> simpa [Act.put] using this
  heap := hh
def gdst (ops : List Oper) (j : Nat) : Option Tmp := (ops[j]?).bind (·.dst)
def xops (E : Env) (ents : List FuncId) (all : List Oper) : List Oper → St → (St → Option ρ) → Option ρ
  | [], s, k => k s
  | o :: r, s, k => match o.guard with
    | none => xstep E ents s o.op fun v h' => xops E ents all r ⟨setSlot s.t o.dst v, h'⟩ k
    | some (j, want) => (match gdst all j with
      | none => none
      | some d => (match s.t[d]? with
        | some (.bool b) =>
          if b = true then
            (if want = true then xstep E ents ⟨s.t.set d (.bool true), s.h⟩ o.op fun v h' => xops E ents all r ⟨setSlot (s.t.set d (.bool true)) o.dst v, h'⟩ k
             else xops E ents all r ⟨setSlot (s.t.set d (.bool true)) o.dst (.tup []), s.h⟩ k)
          else
            (if want = true then xops E ents all r ⟨setSlot (s.t.set d (.bool false)) o.dst (.tup []), s.h⟩ k
             else xstep E ents ⟨s.t.set d (.bool false), s.h⟩ o.op fun v h' => xops E ents all r ⟨setSlot (s.t.set d (.bool false)) o.dst v, h'⟩ k)
        | some (.tup []) => xops E ents all r ⟨setSlot s.t o.dst (.tup []), s.h⟩ k
        | _ => none))
structure Goes (m : Nat) (β γ : Names) (h h' : Heap) (w w' : World) : Prop where
  old : m ≤ h.length → ∀ b, b < m → γ b = β b
  len : m ≤ h.length → m ≤ h'.length
  ext : Ext (Mine β h) w w'
  mine : ∀ a, Mine γ h' a → Mine β h a ∨ w.heap.size ≤ a.block
theorem Goes.refl (m : Nat) (β : Names) (h : Heap) (w : World) : Goes m β β h h w w := ⟨fun _ _ _ => rfl, fun h => h, Ext.refl _ _, fun _ h => .inl h⟩
theorem Goes.trans {m : Nat} {α β γ : Names} {h h' h'' : Heap} {w w' w'' : World} (a : Goes m α β h h' w w') (b : Goes m β γ h' h'' w' w'') : Goes m α γ h h'' w w'' where
  old := fun hm c hc => (b.old (a.len hm) c hc).trans (a.old hm c hc)
  len := fun hm => b.len (a.len hm)
  ext := a.ext.trans b.ext a.mine
  mine := fun x hx => by
    rcases b.mine x hx with h1 | h1
    · exact a.mine x h1
    · exact .inr (Nat.le_trans a.ext.size h1)
theorem After.goes {β γ : Names} {h h' : Heap} {w w' : World} (a : After β γ h h' w w') (m : Nat) : Goes m β γ h h' w w' := ⟨fun hm b hb => a.old b (by omega), fun hm => Nat.le_trans hm a.len, a.ext, a.mine⟩
theorem same_bool {β : Names} {s : St} {a : Act} {w : World} (r : Rel β s a w) {d : Nat} {b : Bool} (h : s.t[d]? = some (.bool b)) {c : Bool} (hb : b = c) : Rel β ⟨s.t.set d (.bool c), s.h⟩ a w := by
  subst hb
  have : s.t.set d (.bool b) = s.t := by
    apply List.ext_getElem?
    intro i
    by_cases hi : i = d
    · subst hi
      rw [List.getElem?_set_self (List.getElem?_eq_some_iff.1 h).1, h]
    · rw [List.getElem?_set_ne (fun e => hi e.symm)]
  rw [this]
  exact r
theorem wanted_of {β : Names} {all : List Oper} {s : St} {a : Act} {w : World} (r : Rel β s a w) {o : Oper} {j : Nat} {want : Bool} (hg : o.guard = some (j, want)) {d : Tmp} (hd : gdst all j = some d) {b : Bool} (hb : s.t[d]? = some (.bool b)) :
    Region.wanted o (yielded all.toArray a.tmps) = (b == want) := by
  have hv : AV.rel β (.bool b) (a.tmps.getD d undef) := r.val d _ hb
  have hlt : d < a.tmps.size := by rw [r.len]; exact (List.getElem?_eq_some_iff.1 hb).1
  have hval : a.tmps[d]? = some (.bool b) := by
    have : a.tmps.getD d undef = .bool b := hv
    rw [Array.getD_eq_getD_getElem?, Array.getElem?_eq_getElem hlt] at this
    rw [Array.getElem?_eq_getElem hlt]
    simpa using this
  unfold gdst at hd
  simp only [Region.wanted, hg, yielded, List.getElem?_toArray, hd, Option.bind_some, hval]
  cases b <;> cases want <;> rfl
theorem wanted_undef {β : Names} {all : List Oper} {s : St} {a : Act} {w : World} (r : Rel β s a w) {o : Oper} {j : Nat} {want : Bool} (hg : o.guard = some (j, want)) {d : Tmp} (hd : gdst all j = some d) (hb : s.t[d]? = some (.tup [])) :
    Region.wanted o (yielded all.toArray a.tmps) = false := by
  obtain ⟨xs, hx, h2⟩ : AV.rel β (.tup []) (a.tmps.getD d undef) := r.val d _ hb
  cases xs with
  | cons _ _ => exact h2.elim
  | nil =>
    have hlt : d < a.tmps.size := by rw [r.len]; exact (List.getElem?_eq_some_iff.1 hb).1
    have hval : a.tmps[d]? = some (.tuple #[]) := by
      rw [Array.getD_eq_getD_getElem?, Array.getElem?_eq_getElem hlt] at hx
      rw [Array.getElem?_eq_getElem hlt]
      simpa using hx
    unfold gdst at hd
    simp only [Region.wanted, hg, yielded, List.getElem?_toArray, hd, Option.bind_some, hval]
    cases want <;> rfl
theorem xops_ok {E : Env} {ents : List FuncId} (hE : EnvOk E ents) (m : Nat) {all : List Oper} : ∀ {l : List Oper} {n : Nat} {s : St} {k : St → Option ρ} {r : ρ}, (∀ i, l[i]? = all[n + i]?) → n + l.length = all.length → xops E ents all l s k = some r →
    ∃ s', k s' = some r ∧ ∀ (β : Names) (a : Act) (w : World) (Q : Exit → Act → World → Prop), Rel β s a w → (∀ a' w' γ, Rel γ s' a' w' → Goes m β γ s.h s'.h w w' → Q .normal a' w') → wpOps E.P all.toArray Q (List.range' n l.length) a w
  | [], n, s, k, r, _, _, h => ⟨s, h, fun β a w Q hr hQ => hQ a w β hr (Goes.refl _ _ _ _)⟩
  | o :: l, n, s, k, r, hl, hn, h => by
    have ho : all.toArray[n]? = some o := by
      have := hl 0; simp at this; simp [← this]
    have hl' : ∀ i, l[i]? = all[n + 1 + i]? := fun i => by
      have := hl (i + 1); rw [show n + (i + 1) = n + 1 + i by omega] at this; simpa using this
    have hn' : n + 1 + l.length = all.length := by simp at hn; omega
    have run : ∀ (s0 : St), xstep E ents s0 o.op (fun v h' => xops E ents all l ⟨setSlot s0.t o.dst v, h'⟩ k) = some r →
        ∃ s', k s' = some r ∧ ∀ (β : Names) (a : Act) (w : World) (Q : Exit → Act → World → Prop), Rel β s0 a w → Region.wanted o (yielded all.toArray a.tmps) = true → (∀ a' w' γ, Rel γ s' a' w' → Goes m β γ s0.h s'.h w w' → Q .normal a' w') → wpOps E.P all.toArray Q (n :: List.range' (n + 1) l.length) a w := by
      intro s0 hs
      obtain ⟨v, h', h1, _, h2⟩ := xstep_ok hE hs
      obtain ⟨s', h3, h4⟩ := xops_ok hE m hl' hn' h1
      refine ⟨s', h3, fun β a w Q hr hw hQ => ?_⟩
      rw [wpOps_cons]
      unfold wpOp
      rw [ho]
      simp only [hw, if_true]
      refine .inl ?_
      obtain ⟨dst, op, ty, pos, af, g⟩ := o
      refine h2 dst ty pos af g β a w hr _ Q fun y w' γ hv hA => ?_
      refine h4 γ _ w' Q (hr.put hA.le hv hA.rel) fun a'' w'' δ hr'' hg'' => hQ a'' w'' δ hr'' ((hA.goes m).trans hg'')
    have skip : ∀ (s0 : St), xops E ents all l ⟨setSlot s0.t o.dst (.tup []), s0.h⟩ k = some r →
        ∃ s', k s' = some r ∧ ∀ (β : Names) (a : Act) (w : World) (Q : Exit → Act → World → Prop), Rel β s0 a w → Region.wanted o (yielded all.toArray a.tmps) = false → (∀ a' w' γ, Rel γ s' a' w' → Goes m β γ s0.h s'.h w w' → Q .normal a' w') → wpOps E.P all.toArray Q (n :: List.range' (n + 1) l.length) a w := by
      intro s0 hs
      obtain ⟨s', h3, h4⟩ := xops_ok hE m hl' hn' hs
      refine ⟨s', h3, fun β a w Q hr hw hQ => ?_⟩
      rw [wpOps_cons]
      unfold wpOp
      rw [ho]
      simp only [hw, Bool.false_eq_true, if_false]
      exact h4 β _ w Q (hr.put (Names.le_refl _) (v := .tup []) (y := undef) ⟨[], rfl, trivial⟩ hr.heap) hQ
    simp only [List.length_cons, List.range'_succ]
    simp only [xops] at h
    split at h
    · rename_i hg
      obtain ⟨s', h1, h2⟩ := run s h
      exact ⟨s', h1, fun β a w Q hr hQ => h2 β a w Q hr (by simp [Region.wanted, hg]) hQ⟩
    · rename_i j want hg
      split at h
      · cases h
      · rename_i d hd
        split at h
        · rename_i b hb
          split at h
          · rename_i hbt
            split at h
            · rename_i hwt
              obtain ⟨s', h1, h2⟩ := run _ h
              exact ⟨s', h1, fun β a w Q hr hQ => h2 β a w Q (same_bool hr hb hbt) (by rw [wanted_of hr hg hd hb, hbt, hwt]; rfl) hQ⟩
            · rename_i hwt
              obtain ⟨s', h1, h2⟩ := skip ⟨s.t.set d (.bool true), s.h⟩ h
              exact ⟨s', h1, fun β a w Q hr hQ => h2 β a w Q (same_bool hr hb hbt) (by rw [wanted_of hr hg hd hb, hbt, show want = false by simpa using hwt]; rfl) hQ⟩
          · rename_i hbt
            have hbf : b = false := by simpa using hbt
            split at h
            · rename_i hwt
              obtain ⟨s', h1, h2⟩ := skip ⟨s.t.set d (.bool false), s.h⟩ h
              exact ⟨s', h1, fun β a w Q hr hQ => h2 β a w Q (same_bool hr hb hbf) (by rw [wanted_of hr hg hd hb, hbf, hwt]; rfl) hQ⟩
            · rename_i hwt
              obtain ⟨s', h1, h2⟩ := run _ h
              exact ⟨s', h1, fun β a w Q hr hQ => h2 β a w Q (same_bool hr hb hbf) (by rw [wanted_of hr hg hd hb, hbf, show want = false by simpa using hwt]; rfl) hQ⟩
        · rename_i hb
          obtain ⟨s', h1, h2⟩ := skip s h
          exact ⟨s', h1, fun β a w Q hr hQ => h2 β a w Q hr (wanted_undef hr hg hd hb) hQ⟩
        · cases h
end
end Go.Proofs.YtoeailachidcdaaGreatDoor.Hg
