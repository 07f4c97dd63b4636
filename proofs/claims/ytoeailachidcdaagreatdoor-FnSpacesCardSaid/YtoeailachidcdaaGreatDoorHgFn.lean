import Derived.Test.YtoeailachidcdaaGreatDoorHgCode
namespace Go.Proofs.YtoeailachidcdaaGreatDoor.Hg
set_option linter.unusedVariables false
set_option linter.unusedSimpArgs false
set_option linter.unusedSectionVars false
open Go Go.RowKit
variable [Gl : Glob]
section
variable {ρ : Type}
def resAV (E : Env) (s : St) : ResultVar → Option AV
  | .tmp t => some (s.t.getD t .any)
  | .cell a t => xload E s.h t (s.t.getD a .any)
def resList (E : Env) (s : St) : List ResultVar → Option (List AV)
  | [] => some []
  | r :: rs => match resAV E s r, resList E s rs with
    | some v, some vs => some (v :: vs)
    | _, _ => none
def single : AV → Bool
  | .tup _ | .mixv _ => false
  | _ => true
def liveB (x : Blk) : Bool := match x.c with | .dead => false | _ => true
def finH : Heap → Heap → Heap
  | [], h => h
  | _ :: _, [] => []
  | x :: r, y :: h => (if x.rw = true then y else x) :: finH r h
def finOk : Heap → Heap → Bool
  | [], h => h.all (·.rw)
  | _ :: _, [] => false
  | x :: r, y :: h => liveB x && (!x.rw || y.rw) && finOk r h
def finV (m : Nat) (fs : List Nat) (vs : List AV) : AV := match vs.map (re1 m fs) with | [v] => v | vs' => .tup vs'
def finK (E : Env) (cs : List (CT × CV)) (fn : Func) (sh : Heap) (K : AV → Heap → Option ρ) : XE → St → Option ρ
  | .exit _, _ => none
  | _, s => (fun s1 : St => match resList E s1 fn.results.toList with
    | none => none
    | some vs => (fun fs : List Nat => if fsOk sh.length fs = true ∧ sh.length ≤ s1.h.length ∧ (idsL vs).all (cov sh.length fs) = true ∧ vs.all single = true ∧ finOk sh (renH sh.length fs s1.h) = true then
        K (finV sh.length fs vs) (finH sh (renH sh.length fs s1.h)) else none) (reach sh.length s1.h 60 0 (freshIds sh.length (idsL vs ++ idsH sh.length s1.h) []))) (convs cs s)
def xbody (E : Env) (ents : List FuncId) (kp : Keeps) (N : Nat) (fn : Func) (c : Code) (args : List AV) (sh : Heap) (K : AV → Heap → Option ρ) : Option ρ :=
  xcode E ents kp sh.length N c 0 ⟨args ++ List.replicate (fn.ntmps - args.length) .any, sh⟩ (finK E kp.fins fn sh K)
theorem finH_at : ∀ {sh h : Heap} {i : Nat} {x : Blk}, finOk sh h = true → (finH sh h)[i]? = some x →
    (∃ x0 y, sh[i]? = some x0 ∧ h[i]? = some y ∧ x0.c ≠ .dead ∧ ((x0.rw = false ∧ x = x0) ∨ (x0.rw = true ∧ x = y ∧ y.rw = true))) ∨ (sh.length ≤ i ∧ h[i]? = some x ∧ x.rw = true)
  | [], h, i, x, hf, hx => by
    simp only [finH] at hx
    simp only [finOk, List.all_eq_true] at hf
    exact .inr ⟨Nat.zero_le _, hx, hf x (List.mem_of_getElem? hx)⟩
  | _ :: _, [], _, _, hf, _ => by simp [finOk] at hf
  | x0 :: sh, y :: h, 0, x, hf, hx => by
    simp only [finOk, Bool.and_eq_true] at hf
    simp only [finH, List.getElem?_cons_zero, Option.some.injEq] at hx
    refine .inl ⟨x0, y, rfl, rfl, ?_, ?_⟩
    · have := hf.1.1
      unfold liveB at this
      intro e
      rw [e] at this
      cases this
    · cases hrw : x0.rw with
      | false => rw [hrw] at hx; exact .inl ⟨rfl, by simpa using hx.symm⟩
      | true =>
        rw [hrw] at hx
        have := hf.1.2
        rw [hrw] at this
        exact .inr ⟨rfl, by simpa using hx.symm, by simpa using this⟩
  | x0 :: sh, y :: h, i + 1, x, hf, hx => by
    simp only [finOk, Bool.and_eq_true] at hf
    simp only [finH, List.getElem?_cons_succ] at hx
    rcases finH_at hf.2 hx with ⟨z, u, h1, h2, h3⟩ | ⟨h1, h2⟩
    · exact .inl ⟨z, u, by simpa using h1, by simpa using h2, h3⟩
    · exact .inr ⟨by simpa using h1, by simpa using h2⟩
theorem finH_len : ∀ {sh h : Heap}, finOk sh h = true → (finH sh h).length = h.length ∧ sh.length ≤ h.length
  | [], _, _ => ⟨rfl, Nat.zero_le _⟩
  | _ :: _, [], hf => by simp [finOk] at hf
  | x0 :: sh, y :: h, hf => by
    simp only [finOk, Bool.and_eq_true] at hf
    obtain ⟨h1, h2⟩ := finH_len hf.2
    exact ⟨by simp [finH, h1], by simpa using h2⟩
theorem rel1_single {β : Names} {v : AV} {u : Value} (h : v.rel β u) (ho : single v = true) : v.rel1 β u := by
  cases v <;> first | exact h | cases ho
theorem run_results {E : Env} (hE : laysOk E.P E.lays = true) {β : Names} {s : St} {a : Act} {w : World} (hr : Rel β s a w) : ∀ {rs : List ResultVar} {vs : List AV}, resList E s rs = some vs → vs.all single = true →
    ∃ ys : List Value, (rs.mapM fun (r : ResultVar) => match r with | .tmp t => (pure (a.tmps.getD t undef) : Sem Value) | .cell p t => do loadVar t (← asAddr (a.tmps.getD p undef))).run E.P w = .ok ys w ∧ all2 (AV.rel1 β) vs ys
  | [], vs, h, _ => by simp [resList] at h; subst h; exact ⟨[], by simp, trivial⟩
  | r :: rs, vs, h, hi => by
    simp only [resList] at h
    split at h
    · rename_i v vs' hv hvs
      cases h
      simp only [List.all_cons, Bool.and_eq_true] at hi
      obtain ⟨ys, h3, h4⟩ := run_results hE hr hvs hi.2
      cases r with
      | tmp t =>
        simp only [resAV, Option.some.injEq] at hv
        subst hv
        have := hr.ev (.tmp t)
        refine ⟨a.tmps.getD t undef :: ys, ?_, rel1_single this hi.1, h4⟩
        simp only [List.mapM_cons, Sem.run_bind, Sem.run_pure, Result.andThen_ok, h3]
      | cell p t =>
        simp only [resAV] at hv
        have hp := hr.ev (.tmp p)
        obtain ⟨u, h5, h6⟩ := xload_ok hE hr.heap hv hp
        refine ⟨u :: ys, ?_, rel1_single h6 hi.1, h4⟩
        have h7 : (do loadVar t (← asAddr (a.tmps.getD p undef)) : Sem Value).run E.P w = .ok u w := by
          simp only [Instr.loadAt, Sem.run_bind] at h5 ⊢
          have : (asAddr (a.tmps.getD p undef)).run E.P w = (Instr.sureAddr (a.eval (.tmp p))).run E.P w := by
            have e : a.eval (.tmp p) = a.tmps.getD p undef := rfl
            rw [e] at h5 ⊢
            cases hv2 : a.tmps.getD p undef with
            | pointer q =>
              cases q with
              | some q => rfl
              | none => rw [hv2] at h5; simp [Instr.sureAddr, Result.andThen] at h5
            | _ => rw [hv2] at h5; simp [Instr.sureAddr, Result.andThen] at h5
          rw [this]; exact h5
        simp only [List.mapM_cons]
        rw [Sem.run_bind, h7, Result.andThen_ok, Sem.run_bind, h3, Result.andThen_ok]
        rfl
    · cases h
theorem fn_ok {E : Env} {ents : List FuncId} (hE : EnvOk E ents) {kp : Keeps} {N : Nat} {f : FuncId} {fn : Func} {c : Code} (hf : E.P.funcs[f]? = some fn) (hb : fn.body = some c) {args : List AV} {sh : Heap} {K : AV → Heap → Option ρ} {r : ρ}
    (h : xbody E ents kp N fn c args sh K = some r) : ∃ v sh', K v sh' = some r ∧ FnOk E.P f args sh v sh' := by
  unfold xbody at h
  obtain ⟨e, s', h1, h2⟩ := xcode_ok hE h
  have key : ∃ (vs : List AV) (fs : List Nat), (e = .normal ∨ e = .ret) ∧ resList E (convs kp.fins s') fn.results.toList = some vs ∧ fsOk sh.length fs = true ∧ sh.length ≤ (convs kp.fins s').h.length ∧ (idsL vs).all (cov sh.length fs) = true ∧ vs.all single = true ∧ finOk sh (renH sh.length fs (convs kp.fins s').h) = true ∧
      K (finV sh.length fs vs) (finH sh (renH sh.length fs (convs kp.fins s').h)) = some r := by
    cases e with
    | exit j => simp [finK] at h1
    | normal =>
      simp only [finK] at h1
      split at h1
      · cases h1
      · rename_i vs hvs
        split at h1
        · rename_i hc
          exact ⟨vs, _, .inl rfl, hvs, hc.1, hc.2.1, hc.2.2.1, hc.2.2.2.1, hc.2.2.2.2, h1⟩
        · cases h1
    | ret =>
      simp only [finK] at h1
      split at h1
      · cases h1
      · rename_i vs hvs
        split at h1
        · rename_i hc
          exact ⟨vs, _, .inr rfl, hvs, hc.1, hc.2.1, hc.2.2.1, hc.2.2.2.1, hc.2.2.2.2, h1⟩
        · cases h1
  obtain ⟨vs, fs, he, hvs, hfs, hml, hcv, hsg, hfo, hK⟩ := key
  obtain ⟨l1, l2⟩ := finH_len hfo
  refine ⟨_, _, hK, ⟨by rw [l1]; exact l2, ?_, ?_, ?_⟩⟩
  · intro i x hx hro
    have hi : i < (finH sh (renH sh.length fs (convs kp.fins s').h)).length := by rw [l1]; have := (List.getElem?_eq_some_iff.1 hx).1; omega
    have hg := List.getElem?_eq_getElem hi
    rcases finH_at hfo hg with ⟨x0, y, g1, g2, g3, g4⟩ | ⟨g1, _⟩
    · rw [hx] at g1; cases g1
      rcases g4 with ⟨_, g5⟩ | ⟨g5, _⟩
      · rw [hg, g5]
      · rw [hro] at g5; cases g5
    · have := (List.getElem?_eq_some_iff.1 hx).1; omega
  · intro i x hx hrw
    have hi : i < (finH sh (renH sh.length fs (convs kp.fins s').h)).length := by rw [l1]; have := (List.getElem?_eq_some_iff.1 hx).1; omega
    have hg := List.getElem?_eq_getElem hi
    rcases finH_at hfo hg with ⟨x0, y, g1, g2, g3, g4⟩ | ⟨g1, _⟩
    · rw [hx] at g1; cases g1
      rcases g4 with ⟨g5, _⟩ | ⟨_, g5, g6⟩
      · rw [hrw] at g5; cases g5
      · exact ⟨_, hg, by rw [g5]; exact g6⟩
    · have := (List.getElem?_eq_some_iff.1 hx).1; omega
  · intro β w ys hh hys
    have hlen : ys.length = args.length := (all2_length hys).symm
    refine calls_of_wp hf hb ?_
    have hrel : Rel β ⟨args ++ List.replicate (fn.ntmps - args.length) .any, sh⟩ { tmps := ys.toArray ++ Array.replicate (fn.ntmps - ys.toArray.size) undef, defers := [] } w := by
      refine ⟨by simp [hlen], fun i v hv => ?_, rfl, hh⟩
      rcases Nat.lt_or_ge i args.length with hlt | hge'
      · rw [List.getElem?_append_left hlt] at hv
        obtain ⟨y, hy1, hy2⟩ := all2_get hys hv
        have hlt' : i < ys.length := by omega
        have : (ys.toArray ++ Array.replicate (fn.ntmps - ys.toArray.size) undef).getD i undef = y := by
          rw [Array.getD_eq_getD_getElem?, Array.getElem?_append_left (by simpa using hlt')]
          simp [hy1]
        simp only
        rw [this]; exact hy2
      · rw [List.getElem?_append_right hge'] at hv
        have := List.getElem?_replicate (n := fn.ntmps - args.length) (a := AV.any) (i := i - args.length)
        rw [hv] at this
        split at this
        · cases this; trivial
        · cases this
    refine h2 β _ w _ hrel fun a' w' γ hr' hg' => ?_
    obtain ⟨δ, hr1, a1⟩ := convs_ok (cs := kp.fins) hr'
    obtain ⟨zs, hz1, hz2⟩ := run_results hE.lays hr1 hvs hsg
    have hres : (results fn a'.tmps).run E.P w' = .ok (if h : zs.toArray.size = 1 then zs.toArray[0] else .tuple zs.toArray) w' := by
      unfold results
      rw [Sem.run_bind]
      have : (fn.results.mapM fun (x : ResultVar) => match x with | .tmp t => (pure (a'.tmps.getD t undef) : Sem Value) | .cell p t => do loadVar t (← asAddr (a'.tmps.getD p undef))).run E.P w' = .ok zs.toArray w' := by
        rw [← Array.toArray_toList (xs := fn.results), List.mapM_toArray, Sem.run_map, hz1]
        rfl
      refine (congrArg (fun q => Result.andThen q _) this).trans ?_
      rfl
    have hold0 : ∀ b, b < sh.length → γ b = β b := hg'.old (Nat.le_refl _)
    have hlen' : sh.length ≤ s'.h.length := hg'.len (Nat.le_refl _)
    have hold1 : ∀ b, b < sh.length → δ b = β b := fun b hb' => by rw [a1.old b (by omega), hold0 b hb']
    obtain ⟨hR, hRm⟩ := renH_ok hr1.heap hml hfs
    have hold : ∀ b, b < sh.length → reNames δ sh.length fs b = β b := fun b hb' => by unfold reNames; rw [if_pos hb']; exact hold1 b hb'
    have hmineR : ∀ a, Mine (reNames δ sh.length fs) (renH sh.length fs (convs kp.fins s').h) a → Mine β sh a ∨ w.heap.size ≤ a.block := by
      intro a hm
      rcases a1.mine a (hRm a hm) with h3 | h3
      · exact hg'.mine a h3
      · exact .inr (Nat.le_trans hg'.ext.size h3)
    have hle : β.le (reNames δ sh.length fs) := by
      intro b L hL
      rcases Nat.lt_or_ge b sh.length with h3 | h3
      · rw [hold b h3]; exact hL
      · rw [hh.fresh b h3] at hL; cases hL
    have hrov : ∀ (b : Nat) (x0 : Blk) (L : Loc), sh[b]? = some x0 → x0.rw = false → x0.c ≠ .dead → β b = some L → ∀ B X, L.own B X → ¬ Mine β sh ⟨B, X, none⟩ := by
      rintro b x0 L hx0 hro hd hL B X ho ⟨c, z, M, hz, hzrw, hzd, hM, ho'⟩
      have hne : c ≠ b := by
        rintro rfl
        rw [hx0] at hz; cases hz
        rw [hro] at hzrw; cases hzrw
      exact hh.disj c b z x0 M L B X hne hz hx0 hM hL hzrw hzd hd ho' ho
    have hat : ∀ (b : Nat) (x : Blk), (finH sh (renH sh.length fs (convs kp.fins s').h))[b]? = some x → (b < sh.length ∧ sh[b]? = some x ∧ x.rw = false ∧ x.c ≠ .dead) ∨ ((renH sh.length fs (convs kp.fins s').h)[b]? = some x ∧ x.rw = true) := by
      intro b x hx
      rcases finH_at hfo hx with ⟨x0, y, g1, g2, g3, g4⟩ | ⟨_, g2, g3⟩
      · rcases g4 with ⟨g5, rfl⟩ | ⟨_, rfl, g6⟩
        · exact .inl ⟨(List.getElem?_eq_some_iff.1 g1).1, g1, g5, g3⟩
        · exact .inr ⟨g2, g6⟩
      · exact .inr ⟨g2, g3⟩
    have hfin : a'.defers = [] ∧ ∃ v, (results fn a'.tmps).run E.P w' = .ok v w' ∧ (∃ γ' y, Ending.returned v = .returned y ∧ (∀ b, b < sh.length → γ' b = β b) ∧ (finV sh.length fs vs).rel γ' y ∧ HRel γ' (finH sh (renH sh.length fs (convs kp.fins s').h)) w' ∧ Ext (Mine β sh) w w' ∧
        (∀ (b : Nat) (x : Blk) (L : Loc) (B X : Nat), sh.length ≤ b → (finH sh (renH sh.length fs (convs kp.fins s').h))[b]? = some x → x.c ≠ .dead → γ' b = some L → L.own B X → w.heap.size ≤ B ∨ Mine β sh ⟨B, X, none⟩)) := by
      refine ⟨hr'.defers, _, hres, reNames δ sh.length fs, _, rfl, hold, ?_, ⟨?_, ?_, ?_, ?_, hR.glob, ?_⟩, hg'.ext, ?_⟩
      · have hl2 := reL_rel hcv hz2
        unfold finV
        match vs.map (re1 sh.length fs), zs, hl2 with
        | [v], [z], ⟨q, _⟩ => exact rel_of_rel1 q
        | [], [], _ => exact ⟨[], rfl, trivial⟩
        | v1 :: v2 :: vr, z1 :: z2 :: zr, q => exact ⟨z1 :: z2 :: zr, by simp, q⟩
      · intro b x hx hd
        rcases hat b x hx with ⟨g1, g2, g3, g4⟩ | ⟨g1, _⟩
        · obtain ⟨L, hL, hrel0⟩ := hh.blk b x g2 hd
          refine ⟨L, by rw [hold b g1]; exact hL, Blk.rel_names hle ?_⟩
          exact Blk.rel_world hrel0 (fun _ B X ho => hg'.ext.cell _ (hh.blk_lt g2 hL hd ho) (hrov b x L g2 g3 g4 hL B X ho)) (fun _ B X ho => hg'.ext.froz _ (hh.blk_lt g2 hL hd ho))
        · exact hR.blk b x g1 hd
      · intro b b' x x' L L' B X hne hx hx' hL hL' hrw hd hd' ho ho'
        rcases hat b x hx with ⟨_, _, g3, _⟩ | ⟨g1, _⟩
        · rw [g3] at hrw; cases hrw
        · rcases hat b' x' hx' with ⟨k1, k2, k3, k4⟩ | ⟨k1, _⟩
          · rw [hold b' k1] at hL'
            rcases hmineR ⟨B, X, none⟩ ⟨b, x, L, g1, hrw, hd, hL, ho⟩ with hm | hm
            · exact hrov b' x' L' k2 k3 k4 hL' B X ho' hm
            · have := hh.blk_lt k2 hL' hd' ho'
              simp only at hm
              omega
          · exact hR.disj b b' x x' L L' B X hne g1 k1 hL hL' hrw hd hd' ho ho'
      · intro b x L hx hL hrw hd
        rcases hat b x hx with ⟨_, _, g3, _⟩ | ⟨g1, _⟩
        · rw [g3] at hrw; cases hrw
        · exact hR.inj b x L g1 hL hrw hd
      · intro b hb'
        rw [l1] at hb'
        exact hR.fresh b hb'
      · intro b x L B X hx hrw hd hL ho
        rcases hat b x hx with ⟨_, _, g3, _⟩ | ⟨g1, _⟩
        · rw [g3] at hrw; cases hrw
        · exact hR.gap b x L B X g1 hrw hd hL ho
      · intro b x L B X hb' hx hd hL ho
        rcases hat b x hx with ⟨g1, _⟩ | ⟨g1, g2⟩
        · omega
        · exact (hmineR ⟨B, X, none⟩ ⟨b, x, L, g1, g2, hd, hL, ho⟩).symm
    rcases he with rfl | rfl
    · exact hfin
    · exact hfin
end
end Go.Proofs.YtoeailachidcdaaGreatDoor.Hg
