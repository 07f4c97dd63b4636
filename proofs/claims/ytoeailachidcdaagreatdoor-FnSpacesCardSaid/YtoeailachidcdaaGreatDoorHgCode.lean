import Derived.Test.YtoeailachidcdaaGreatDoorHgRen
namespace Go.Proofs.YtoeailachidcdaaGreatDoor.Hg
set_option linter.unusedVariables false
set_option linter.unusedSimpArgs false
set_option linter.unusedSectionVars false
open Go Go.RowKit
variable [Gl : Glob]
section
variable {ρ : Type}
inductive XE where
  | normal
  | exit (id : Nat)
  | ret
def XE.to : XE → Exit
  | .normal => .normal
  | .exit id => .exit id
  | .ret => .ret
structure Keeps where
  heads : List (Nat × List Nat × List (CT × CV) × List (CT × CV))
  outs : List (Nat × List Nat × List (CT × CV) × List (CT × CV))
  fins : List (CT × CV)
def lookK : List (Nat × List Nat × List (CT × CV) × List (CT × CV)) → Nat → Option (List Nat × List (CT × CV) × List (CT × CV))
  | [], _ => none
  | (j, x) :: r, i => if j = i then some x else lookK r i
def normAt (l : List (Nat × List Nat × List (CT × CV) × List (CT × CV))) (m id : Nat) (s : St) : St :=
  match lookK l id with
  | some (ks, c1, c2) => norm m ks c1 c2 s
  | none => s
theorem normAt_ok {β : Names} {s : St} {a : Act} {w : World} (r : Rel β s a w) (l : List (Nat × List Nat × List (CT × CV) × List (CT × CV))) (m id : Nat) : ∃ γ, Rel γ (normAt l m id s) a w ∧ Goes m β γ s.h (normAt l m id s).h w w := by
  unfold normAt
  split
  · exact norm_ok r m _ _ _
  · exact ⟨β, r, Goes.refl _ _ _ _⟩
def seqK (f : St → (XE → St → Option ρ) → Option ρ) (k : XE → St → Option ρ) : XE → St → Option ρ
  | .normal, s => f s k
  | .exit j, s => k (.exit j) s
  | .ret, s => k .ret s
def blockK (kp : Keeps) (m id : Nat) (k : XE → St → Option ρ) : XE → St → Option ρ
  | .normal, s => k .normal (normAt kp.outs m id s)
  | .exit j, s => if j = id then k .normal (normAt kp.outs m id s) else k (.exit j) s
  | .ret, s => k .ret s
def roundK (kp : Keeps) (m cur : Nat) (L : St → Option ρ) (k : XE → St → Option ρ) : XE → St → Option ρ
  | .normal, s => L (normAt kp.heads m cur s)
  | .exit j, s => k (.exit j) (normAt kp.outs m j s)
  | .ret, s => k .ret s
def xloop (body : St → (XE → St → Option ρ) → Option ρ) (kp : Keeps) (m cur : Nat) : Nat → St → (XE → St → Option ρ) → Option ρ
  | 0, _, _ => none
  | n + 1, s, k => body s (roundK kp m cur (fun s' => xloop body kp m cur n s' k) k)
def xcode (E : Env) (ents : List FuncId) (kp : Keeps) (m N : Nat) : Code → Nat → St → (XE → St → Option ρ) → Option ρ
  | .skip, _, s, k => k .normal s
  | .region _ ops draw, _, s, k => if draw = true then xregion E ents ops.toList s (fun s' => k .normal s') else xops E ents ops.toList ops.toList s (fun s' => k .normal s')
  | .seq a b, cur, s, k => xcode E ents kp m N a cur s (seqK (xcode E ents kp m N b cur) k)
  | .cond c a b, cur, s, k => (match s.ev c with
    | .bool t => if t = true then xcode E ents kp m N a cur s k else xcode E ents kp m N b cur s k
    | _ => none)
  | .block id c, _, s, k => xcode E ents kp m N c id s (blockK kp m id k)
  | .loop c, cur, s, k => xloop (xcode E ents kp m N c cur) kp m cur N (normAt kp.heads m cur s) k
  | .exit id, _, s, k => k (.exit id) s
  | .ret, _, s, k => k .ret s
  | _, _, _, _ => none
def CodeOk (P : Program) (m : Nat) (c : Code) (s : St) (e : XE) (s' : St) : Prop :=
  ∀ (β : Names) (a : Act) (w : World) (Q : Exit → Act → World → Prop), Rel β s a w → (∀ a' w' γ, Rel γ s' a' w' → Goes m β γ s.h s'.h w w' → Q e.to a' w') → c.wp P Q a w
theorem xloop_ok {P : Program} {c : Code} {kp : Keeps} {m cur : Nat} {body : St → (XE → St → Option ρ) → Option ρ} (hb : ∀ s k r, body s k = some r → ∃ e s', k e s' = some r ∧ CodeOk P m c s e s') :
    ∀ {n : Nat} {s : St} {k : XE → St → Option ρ} {r : ρ}, xloop body kp m cur n s k = some r → ∃ e s', k e s' = some r ∧
      ∀ (β : Names) (a : Act) (w : World) (Q : Exit → Act → World → Prop), Rel β s a w → (∀ a' w' γ, Rel γ s' a' w' → Goes m β γ s.h s'.h w w' → Q e.to a' w') → Code.rounds P c Q n a w
  | 0, _, _, _, h => by simp [xloop] at h
  | n + 1, s, k, r, h => by
    simp only [xloop] at h
    obtain ⟨e, s1, h1, h2⟩ := hb _ _ _ h
    cases e with
    | normal =>
      simp only [roundK] at h1
      obtain ⟨e, s2, h3, h4⟩ := xloop_ok hb h1
      refine ⟨e, s2, h3, fun β a w Q hr hQ => ?_⟩
      rw [rounds_succ]
      refine h2 β a w _ hr fun a' w' γ hr' hg' => ?_
      obtain ⟨δ, hr2, hg2⟩ := normAt_ok hr' kp.heads m cur
      exact h4 δ a' w' Q hr2 fun a'' w'' ε hr'' hg'' => hQ a'' w'' ε hr'' ((hg'.trans hg2).trans hg'')
    | exit j =>
      simp only [roundK] at h1
      refine ⟨.exit j, _, h1, fun β a w Q hr hQ => ?_⟩
      rw [rounds_succ]
      refine h2 β a w _ hr fun a' w' γ hr' hg' => ?_
      obtain ⟨δ, hr2, hg2⟩ := normAt_ok hr' kp.outs m j
      exact hQ a' w' δ hr2 (hg'.trans hg2)
    | ret =>
      simp only [roundK] at h1
      refine ⟨.ret, _, h1, fun β a w Q hr hQ => ?_⟩
      rw [rounds_succ]
      exact h2 β a w _ hr fun a' w' γ hr' hg' => hQ a' w' γ hr' hg'
theorem xcode_ok {E : Env} {ents : List FuncId} (hE : EnvOk E ents) {kp : Keeps} {m N : Nat} : ∀ {c : Code} {cur : Nat} {s : St} {k : XE → St → Option ρ} {r : ρ}, xcode E ents kp m N c cur s k = some r →
    ∃ e s', k e s' = some r ∧ CodeOk E.P m c s e s' := by
  intro c
  induction c with
  | skip =>
    intro cur s k r h
    exact ⟨.normal, s, h, fun β a w Q hr hQ => wp_skip (hQ a w β hr (Goes.refl _ _ _ _))⟩
  | region id ops draw =>
    intro cur s k r h
    simp only [xcode] at h
    split at h
    · rename_i hd
      subst hd
      obtain ⟨s', h1, h2⟩ := xregion_ok hE m h
      refine ⟨.normal, s', h1, fun β a w Q hr hQ => wp_region_any hE.mixed ?_⟩
      have := h2 β a w.drew Q hr.drew fun a' w' γ hr' hg' => hQ a' w' γ hr' ⟨hg'.old, hg'.len, ⟨hg'.ext.os, hg'.ext.tape, hg'.ext.output, hg'.ext.size, hg'.ext.obj, hg'.ext.cell, hg'.ext.froz⟩, hg'.mine⟩
      simpa using this
    · rename_i hd
      have hd' : draw = false := by simpa using hd
      subst hd'
      obtain ⟨s', h1, h2⟩ := xops_ok hE m (n := 0) (by simp) (by simp) h
      refine ⟨.normal, s', h1, fun β a w Q hr hQ => wp_region ?_⟩
      have := h2 β a w Q hr hQ
      simpa [List.range_eq_range'] using this
  | seq a b iha ihb =>
    intro cur s k r h
    simp only [xcode] at h
    obtain ⟨e, s1, h1, h2⟩ := iha h
    cases e with
    | normal =>
      simp only [seqK] at h1
      obtain ⟨e, s2, h3, h4⟩ := ihb h1
      refine ⟨e, s2, h3, fun β ac w Q hr hQ => wp_seq ?_⟩
      exact h2 β ac w _ hr fun a' w' γ hr' hg' => h4 γ a' w' Q hr' fun a'' w'' δ hr'' hg'' => hQ a'' w'' δ hr'' (hg'.trans hg'')
    | exit j =>
      simp only [seqK] at h1
      exact ⟨.exit j, s1, h1, fun β ac w Q hr hQ => wp_seq (h2 β ac w _ hr fun a' w' γ hr' hg' => hQ a' w' γ hr' hg')⟩
    | ret =>
      simp only [seqK] at h1
      exact ⟨.ret, s1, h1, fun β ac w Q hr hQ => wp_seq (h2 β ac w _ hr fun a' w' γ hr' hg' => hQ a' w' γ hr' hg')⟩
  | cond o a b iha ihb =>
    intro cur s k r h
    simp only [xcode] at h
    split at h
    · rename_i t ht
      split at h
      · rename_i htt
        obtain ⟨e, s1, h1, h2⟩ := iha h
        refine ⟨e, s1, h1, fun β ac w Q hr hQ => wp_cond_true ?_ (h2 β ac w Q hr hQ)⟩
        have := hr.ev o; rw [ht, htt] at this; exact this
      · rename_i htt
        obtain ⟨e, s1, h1, h2⟩ := ihb h
        refine ⟨e, s1, h1, fun β ac w Q hr hQ => wp_cond_false ?_ (h2 β ac w Q hr hQ)⟩
        have := hr.ev o; rw [ht, show t = false by simpa using htt] at this; exact this
    · cases h
  | block id c ih =>
    intro cur s k r h
    simp only [xcode] at h
    obtain ⟨e, s1, h1, h2⟩ := ih h
    cases e with
    | normal =>
      simp only [blockK] at h1
      refine ⟨.normal, _, h1, fun β a w Q hr hQ => wp_block (h2 β a w _ hr fun a' w' γ hr' hg' => ?_)⟩
      obtain ⟨δ, hr2, hg2⟩ := normAt_ok hr' kp.outs m id
      exact hQ a' w' δ hr2 (hg'.trans hg2)
    | exit j =>
      simp only [blockK] at h1
      split at h1
      · rename_i hj
        refine ⟨.normal, _, h1, fun β a w Q hr hQ => wp_block (h2 β a w _ hr fun a' w' γ hr' hg' => ?_)⟩
        obtain ⟨δ, hr2, hg2⟩ := normAt_ok hr' kp.outs m id
        have := hQ a' w' δ hr2 (hg'.trans hg2)
        simp only [XE.to, Exit.inBlock, hj, if_true]
        exact this
      · rename_i hj
        refine ⟨.exit j, _, h1, fun β a w Q hr hQ => wp_block (h2 β a w _ hr fun a' w' γ hr' hg' => ?_)⟩
        simp only [XE.to, Exit.inBlock, hj, if_false]
        exact hQ a' w' γ hr' hg'
    | ret =>
      simp only [blockK] at h1
      exact ⟨.ret, _, h1, fun β a w Q hr hQ => wp_block (h2 β a w _ hr fun a' w' γ hr' hg' => hQ a' w' γ hr' hg')⟩
  | loop c ih =>
    intro cur s k r h
    simp only [xcode] at h
    obtain ⟨e, s1, h1, h2⟩ := xloop_ok (P := E.P) (m := m) (c := c) (fun s k r h => ih h) h
    refine ⟨e, s1, h1, fun β a w Q hr hQ => wp_loop_rounds N ?_⟩
    obtain ⟨δ, hr2, hg2⟩ := normAt_ok hr kp.heads m cur
    exact h2 δ a w Q hr2 fun a' w' γ hr' hg' => hQ a' w' γ hr' (hg2.trans hg')
  | exit id =>
    intro cur s k r h
    exact ⟨.exit id, s, h, fun β a w Q hr hQ => wp_exit (hQ a w β hr (Goes.refl _ _ _ _))⟩
  | ret =>
    intro cur s k r h
    exact ⟨.ret, s, h, fun β a w Q hr hQ => wp_ret (hQ a w β hr (Goes.refl _ _ _ _))⟩
  | rangeFunc => intro cur s k r h; simp [xcode] at h
  | scope => intro cur s k r h; simp [xcode] at h
  | label => intro cur s k r h; simp [xcode] at h
  | goto => intro cur s k r h; simp [xcode] at h
  | refuse => intro cur s k r h; simp [xcode] at h
end
end Go.Proofs.YtoeailachidcdaaGreatDoor.Hg
