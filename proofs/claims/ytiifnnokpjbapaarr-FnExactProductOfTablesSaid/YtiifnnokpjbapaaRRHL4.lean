/- The program computes these functions. -/
import Derived.Test.YtiifnnokpjbapaaRRHL3
namespace Go.Proofs.YtiifnnokpjbapaaRR.H
set_option linter.unusedVariables false
set_option linter.unusedSimpArgs false
open Go Go.RowKit Go.Proofs.YtiifnnokpjbapaaRR.Hy
set_option linter.unusedVariables false
set_option maxRecDepth 100000
noncomputable def laws_markInt64S_s.kp : Keeps := ⟨[(0, [0, 1, 5], [], [])], [(0, [1], [], [])], []⟩

noncomputable def laws_markInt64S_s.bd : Code := bodyOf Go.Proofs.Try.f19

noncomputable def laws_markInt64S_s.fin {ρ : Type} (N : Nat) (K : AV → Heap → Option ρ) (gv3 : Nat) (gv4 : Nat → Int) : XE → St → Option ρ := finK (E27 N) laws_markInt64S_s.kp.fins Go.Proofs.Try.f19 [⟨true, .flat gv3 (.ints .i64 gv4)⟩] K

noncomputable def laws_markInt64S_s.k0 {ρ : Type} (N : Nat) (K : AV → Heap → Option ρ) (gv3 : Nat) (gv4 : Nat → Int) : XE → St → Option ρ := (blockK laws_markInt64S_s.kp 1 0 (seqK (xcode (E27 N) ents laws_markInt64S_s.kp 1 N (cB (cB laws_markInt64S_s.bd)) 0) (laws_markInt64S_s.fin N K gv3 gv4)))

theorem laws_markInt64S_s.k0_mix {ρ : Type} (N : Nat) (K : AV → Heap → Option ρ) (gv3 : Nat) (gv4 : Nat → Int) : mixK (laws_markInt64S_s.fin N K gv3 gv4 .ret) (laws_markInt64S_s.k0 N K gv3 gv4) = (laws_markInt64S_s.k0 N K gv3 gv4) := by
  funext e s; cases e <;> kernel_rfl

noncomputable def laws_markInt64S_s.st0 (av0 : Nat) (av1 : Nat) (gv3 : Nat) (k5 : Int) (i6 : Int) (gv7 : Nat → Int) : St := ⟨sl 19 [(0, .slice false 0 0 av0 (.exact av1) 1), (1, .int .i64 (k5)), (5, .int .i64 (i6))], [⟨true, .flat gv3 (.ints .i64 gv7)⟩]⟩

noncomputable def laws_markInt64S_s.sx0_0 (gv3 : Nat) (ov8 : Int) (ov9 : Nat → Int) : St := ⟨sl 19 [(1, .int .i64 (ov8))], [⟨true, .flat gv3 (.ints .i64 ov9)⟩]⟩

theorem laws_markInt64S_s.b0_gen {ρ : Type} (N : Nat) (K : AV → Heap → Option ρ) (L0 : St → Option ρ) (kv : XE → St → Option ρ) (av0 : Nat) (av1 : Nat) (gv3 : Nat) (gv4 : Nat → Int) (k5 : Int) (i6 : Int) (gv7 : Nat → Int) :
    xcode (E27 N) ents laws_markInt64S_s.kp 1 N (cL (cK (cB (cA (cB laws_markInt64S_s.bd))))) 0 (laws_markInt64S_s.st0 av0 av1 gv3 k5 i6 gv7) (roundK laws_markInt64S_s.kp 1 0 L0 (mixK (laws_markInt64S_s.fin N K gv3 gv4 .ret) kv)) = (laws_markInt64S_s.b0 N (fun d0 d1 => K (.int .i64 (d0)) [⟨true, .flat gv3 (.ints .i64 d1)⟩]) (fun k5 i6 gv7 => L0 (laws_markInt64S_s.st0 av0 av1 gv3 k5 i6 gv7)) (fun ov8 ov9 => kv (.exit 0) (laws_markInt64S_s.sx0_0 gv3 ov8 ov9)) av0 k5 i6 gv7) := by kernel_rfl

theorem laws_markInt64S_s.b0_eq {ρ : Type} (N : Nat) (K : AV → Heap → Option ρ) (L0 : St → Option ρ) (av0 : Nat) (av1 : Nat) (gv3 : Nat) (gv4 : Nat → Int) (k5 : Int) (i6 : Int) (gv7 : Nat → Int) :
    xcode (E27 N) ents laws_markInt64S_s.kp 1 N (cL (cK (cB (cA (cB laws_markInt64S_s.bd))))) 0 (laws_markInt64S_s.st0 av0 av1 gv3 k5 i6 gv7) (roundK laws_markInt64S_s.kp 1 0 L0 (laws_markInt64S_s.k0 N K gv3 gv4)) = (laws_markInt64S_s.b0 N (fun d0 d1 => K (.int .i64 (d0)) [⟨true, .flat gv3 (.ints .i64 d1)⟩]) (fun k5 i6 gv7 => L0 (laws_markInt64S_s.st0 av0 av1 gv3 k5 i6 gv7)) (fun ov8 ov9 => (laws_markInt64S_s.k0 N K gv3 gv4) (.exit 0) (laws_markInt64S_s.sx0_0 gv3 ov8 ov9)) av0 k5 i6 gv7) := by
  have h := laws_markInt64S_s.b0_gen N K L0 (laws_markInt64S_s.k0 N K gv3 gv4) av0 av1 gv3 gv4 k5 i6 gv7
  rw [laws_markInt64S_s.k0_mix] at h
  exact h

theorem laws_markInt64S_s.a0_0_eq {ρ : Type} (N : Nat) (K : AV → Heap → Option ρ) (gv3 : Nat) (gv4 : Nat → Int) (ov8 : Int) (ov9 : Nat → Int) :
    (laws_markInt64S_s.k0 N K gv3 gv4) (.exit 0) (laws_markInt64S_s.sx0_0 gv3 ov8 ov9) = (laws_markInt64S_s.a0_0 N (fun d0 d1 => K (.int .i64 (d0)) [⟨true, .flat gv3 (.ints .i64 d1)⟩]) ov8 ov9) := by kernel_rfl

theorem laws_markInt64S_s.l0_eq {ρ : Type} (N : Nat) (K : AV → Heap → Option ρ) (av0 : Nat) (av1 : Nat) (gv3 : Nat) (gv4 : Nat → Int) :
    ∀ (m : Nat) (k5 : Int) (i6 : Int) (gv7 : Nat → Int), xloop (xcode (E27 N) ents laws_markInt64S_s.kp 1 N (cL (cK (cB (cA (cB laws_markInt64S_s.bd))))) 0) laws_markInt64S_s.kp 1 0 m (laws_markInt64S_s.st0 av0 av1 gv3 k5 i6 gv7) (laws_markInt64S_s.k0 N K gv3 gv4) = (laws_markInt64S_s.l0 N (fun d0 d1 => K (.int .i64 (d0)) [⟨true, .flat gv3 (.ints .i64 d1)⟩]) av0 (fun ov8 ov9 => (laws_markInt64S_s.k0 N K gv3 gv4) (.exit 0) (laws_markInt64S_s.sx0_0 gv3 ov8 ov9)) m k5 i6 gv7) := by
  intro m
  induction m with
  | zero => intros; rfl
  | succ m ih =>
    intro k5 i6 gv7
    refine (laws_markInt64S_s.b0_eq N K (fun s => xloop (xcode (E27 N) ents laws_markInt64S_s.kp 1 N (cL (cK (cB (cA (cB laws_markInt64S_s.bd))))) 0) laws_markInt64S_s.kp 1 0 m s (laws_markInt64S_s.k0 N K gv3 gv4)) av0 av1 gv3 gv4 k5 i6 gv7).trans ?_
    simp only [ih]
    kernel_rfl

theorem laws_markInt64S_s.s_eq {ρ : Type} (N : Nat) (K : AV → Heap → Option ρ) (av0 : Nat) (av1 : Nat) (k2 : Int) (gv3 : Nat) (gv4 : Nat → Int) :
    xbody (E27 N) ents laws_markInt64S_s.kp N Go.Proofs.Try.f19 laws_markInt64S_s.bd [.slice false 0 0 av0 (.exact av1) 1, .int .i64 (k2)] [⟨true, .flat gv3 (.ints .i64 gv4)⟩] K = (laws_markInt64S_s.s N (fun d0 d1 => K (.int .i64 (d0)) [⟨true, .flat gv3 (.ints .i64 d1)⟩]) (fun k5 i6 gv7 => xloop (xcode (E27 N) ents laws_markInt64S_s.kp 1 N (cL (cK (cB (cA (cB laws_markInt64S_s.bd))))) 0) laws_markInt64S_s.kp 1 0 N (laws_markInt64S_s.st0 av0 av1 gv3 k5 i6 gv7) (laws_markInt64S_s.k0 N K gv3 gv4)) k2 gv4) := by kernel_rfl

theorem laws_markInt64S_s.eq {ρ : Type} (N : Nat) (K : AV → Heap → Option ρ) (av0 : Nat) (av1 : Nat) (k2 : Int) (gv3 : Nat) (gv4 : Nat → Int) :
    xbody (E27 N) ents laws_markInt64S_s.kp N Go.Proofs.Try.f19 laws_markInt64S_s.bd [.slice false 0 0 av0 (.exact av1) 1, .int .i64 (k2)] [⟨true, .flat gv3 (.ints .i64 gv4)⟩] K = (laws_markInt64S_s N (fun d0 d1 => K (.int .i64 (d0)) [⟨true, .flat gv3 (.ints .i64 d1)⟩]) av0 av1 k2 gv3 gv4) := by
  refine (laws_markInt64S_s.s_eq N K av0 av1 k2 gv3 gv4).trans ?_
  simp only [laws_markInt64S_s.l0_eq, laws_markInt64S_s.a0_0_eq]
  kernel_rfl

noncomputable def laws_markInt64S_su.kp : Keeps := ⟨[(0, [0, 1, 5], [], [])], [(0, [1], [], [])], []⟩

noncomputable def laws_markInt64S_su.bd : Code := bodyOf Go.Proofs.Try.f19

noncomputable def laws_markInt64S_su.fin {ρ : Type} (N : Nat) (K : AV → Heap → Option ρ) (gv2 : Nat) (gv3 : Nat → Int) : XE → St → Option ρ := finK (E27 N) laws_markInt64S_su.kp.fins Go.Proofs.Try.f19 [⟨true, .flat gv2 (.ints .i64 gv3)⟩] K

noncomputable def laws_markInt64S_su.k0 {ρ : Type} (N : Nat) (K : AV → Heap → Option ρ) (gv2 : Nat) (gv3 : Nat → Int) : XE → St → Option ρ := (blockK laws_markInt64S_su.kp 1 0 (seqK (xcode (E27 N) ents laws_markInt64S_su.kp 1 N (cB (cB laws_markInt64S_su.bd)) 0) (laws_markInt64S_su.fin N K gv2 gv3)))

theorem laws_markInt64S_su.k0_mix {ρ : Type} (N : Nat) (K : AV → Heap → Option ρ) (gv2 : Nat) (gv3 : Nat → Int) : mixK (laws_markInt64S_su.fin N K gv2 gv3 .ret) (laws_markInt64S_su.k0 N K gv2 gv3) = (laws_markInt64S_su.k0 N K gv2 gv3) := by
  funext e s; cases e <;> kernel_rfl

noncomputable def laws_markInt64S_su.st0 (av0 : Nat) (gv2 : Nat) (k4 : Int) (i5 : Int) (gv6 : Nat → Int) : St := ⟨sl 19 [(0, .slice false 0 0 av0 .unk 1), (1, .int .i64 (k4)), (5, .int .i64 (i5))], [⟨true, .flat gv2 (.ints .i64 gv6)⟩]⟩

noncomputable def laws_markInt64S_su.sx0_0 (gv2 : Nat) (ov7 : Int) (ov8 : Nat → Int) : St := ⟨sl 19 [(1, .int .i64 (ov7))], [⟨true, .flat gv2 (.ints .i64 ov8)⟩]⟩

theorem laws_markInt64S_su.b0_gen {ρ : Type} (N : Nat) (K : AV → Heap → Option ρ) (L0 : St → Option ρ) (kv : XE → St → Option ρ) (av0 : Nat) (gv2 : Nat) (gv3 : Nat → Int) (k4 : Int) (i5 : Int) (gv6 : Nat → Int) :
    xcode (E27 N) ents laws_markInt64S_su.kp 1 N (cL (cK (cB (cA (cB laws_markInt64S_su.bd))))) 0 (laws_markInt64S_su.st0 av0 gv2 k4 i5 gv6) (roundK laws_markInt64S_su.kp 1 0 L0 (mixK (laws_markInt64S_su.fin N K gv2 gv3 .ret) kv)) = (laws_markInt64S_su.b0 N (fun d0 d1 => K (.int .i64 (d0)) [⟨true, .flat gv2 (.ints .i64 d1)⟩]) (fun k4 i5 gv6 => L0 (laws_markInt64S_su.st0 av0 gv2 k4 i5 gv6)) (fun ov7 ov8 => kv (.exit 0) (laws_markInt64S_su.sx0_0 gv2 ov7 ov8)) av0 k4 i5 gv6) := by kernel_rfl

theorem laws_markInt64S_su.b0_eq {ρ : Type} (N : Nat) (K : AV → Heap → Option ρ) (L0 : St → Option ρ) (av0 : Nat) (gv2 : Nat) (gv3 : Nat → Int) (k4 : Int) (i5 : Int) (gv6 : Nat → Int) :
    xcode (E27 N) ents laws_markInt64S_su.kp 1 N (cL (cK (cB (cA (cB laws_markInt64S_su.bd))))) 0 (laws_markInt64S_su.st0 av0 gv2 k4 i5 gv6) (roundK laws_markInt64S_su.kp 1 0 L0 (laws_markInt64S_su.k0 N K gv2 gv3)) = (laws_markInt64S_su.b0 N (fun d0 d1 => K (.int .i64 (d0)) [⟨true, .flat gv2 (.ints .i64 d1)⟩]) (fun k4 i5 gv6 => L0 (laws_markInt64S_su.st0 av0 gv2 k4 i5 gv6)) (fun ov7 ov8 => (laws_markInt64S_su.k0 N K gv2 gv3) (.exit 0) (laws_markInt64S_su.sx0_0 gv2 ov7 ov8)) av0 k4 i5 gv6) := by
  have h := laws_markInt64S_su.b0_gen N K L0 (laws_markInt64S_su.k0 N K gv2 gv3) av0 gv2 gv3 k4 i5 gv6
  rw [laws_markInt64S_su.k0_mix] at h
  exact h

theorem laws_markInt64S_su.a0_0_eq {ρ : Type} (N : Nat) (K : AV → Heap → Option ρ) (gv2 : Nat) (gv3 : Nat → Int) (ov7 : Int) (ov8 : Nat → Int) :
    (laws_markInt64S_su.k0 N K gv2 gv3) (.exit 0) (laws_markInt64S_su.sx0_0 gv2 ov7 ov8) = (laws_markInt64S_su.a0_0 N (fun d0 d1 => K (.int .i64 (d0)) [⟨true, .flat gv2 (.ints .i64 d1)⟩]) ov7 ov8) := by kernel_rfl

theorem laws_markInt64S_su.l0_eq {ρ : Type} (N : Nat) (K : AV → Heap → Option ρ) (av0 : Nat) (gv2 : Nat) (gv3 : Nat → Int) :
    ∀ (m : Nat) (k4 : Int) (i5 : Int) (gv6 : Nat → Int), xloop (xcode (E27 N) ents laws_markInt64S_su.kp 1 N (cL (cK (cB (cA (cB laws_markInt64S_su.bd))))) 0) laws_markInt64S_su.kp 1 0 m (laws_markInt64S_su.st0 av0 gv2 k4 i5 gv6) (laws_markInt64S_su.k0 N K gv2 gv3) = (laws_markInt64S_su.l0 N (fun d0 d1 => K (.int .i64 (d0)) [⟨true, .flat gv2 (.ints .i64 d1)⟩]) av0 (fun ov7 ov8 => (laws_markInt64S_su.k0 N K gv2 gv3) (.exit 0) (laws_markInt64S_su.sx0_0 gv2 ov7 ov8)) m k4 i5 gv6) := by
  intro m
  induction m with
  | zero => intros; rfl
  | succ m ih =>
    intro k4 i5 gv6
    refine (laws_markInt64S_su.b0_eq N K (fun s => xloop (xcode (E27 N) ents laws_markInt64S_su.kp 1 N (cL (cK (cB (cA (cB laws_markInt64S_su.bd))))) 0) laws_markInt64S_su.kp 1 0 m s (laws_markInt64S_su.k0 N K gv2 gv3)) av0 gv2 gv3 k4 i5 gv6).trans ?_
    simp only [ih]
    kernel_rfl

theorem laws_markInt64S_su.s_eq {ρ : Type} (N : Nat) (K : AV → Heap → Option ρ) (av0 : Nat) (k1 : Int) (gv2 : Nat) (gv3 : Nat → Int) :
    xbody (E27 N) ents laws_markInt64S_su.kp N Go.Proofs.Try.f19 laws_markInt64S_su.bd [.slice false 0 0 av0 .unk 1, .int .i64 (k1)] [⟨true, .flat gv2 (.ints .i64 gv3)⟩] K = (laws_markInt64S_su.s N (fun d0 d1 => K (.int .i64 (d0)) [⟨true, .flat gv2 (.ints .i64 d1)⟩]) (fun k4 i5 gv6 => xloop (xcode (E27 N) ents laws_markInt64S_su.kp 1 N (cL (cK (cB (cA (cB laws_markInt64S_su.bd))))) 0) laws_markInt64S_su.kp 1 0 N (laws_markInt64S_su.st0 av0 gv2 k4 i5 gv6) (laws_markInt64S_su.k0 N K gv2 gv3)) k1 gv3) := by kernel_rfl

theorem laws_markInt64S_su.eq {ρ : Type} (N : Nat) (K : AV → Heap → Option ρ) (av0 : Nat) (k1 : Int) (gv2 : Nat) (gv3 : Nat → Int) :
    xbody (E27 N) ents laws_markInt64S_su.kp N Go.Proofs.Try.f19 laws_markInt64S_su.bd [.slice false 0 0 av0 .unk 1, .int .i64 (k1)] [⟨true, .flat gv2 (.ints .i64 gv3)⟩] K = (laws_markInt64S_su N (fun d0 d1 => K (.int .i64 (d0)) [⟨true, .flat gv2 (.ints .i64 d1)⟩]) av0 k1 gv2 gv3) := by
  refine (laws_markInt64S_su.s_eq N K av0 k1 gv2 gv3).trans ?_
  simp only [laws_markInt64S_su.l0_eq, laws_markInt64S_su.a0_0_eq]
  kernel_rfl

noncomputable def laws_markInt64S_s.en (N : Nat) (ρ : Type) : List AV → Heap → (AV → Heap → Option ρ) → Option ρ
  | [.slice false 0 0 av0 (.exact av1) 1, .int .i64 (k2)], [⟨true, .flat gv3 (.ints .i64 gv4)⟩], K => (laws_markInt64S_s N (fun d0 d1 => K (.int .i64 (d0)) [⟨true, .flat gv3 (.ints .i64 d1)⟩]) av0 av1 k2 gv3 gv4)
  | [.slice false 0 0 av0 .unk 1, .int .i64 (k1)], [⟨true, .flat gv2 (.ints .i64 gv3)⟩], K => (laws_markInt64S_su N (fun d0 d1 => K (.int .i64 (d0)) [⟨true, .flat gv2 (.ints .i64 d1)⟩]) av0 k1 gv2 gv3)
  | _, _, _ => none

theorem laws_markInt64S_s.en_ok (N : Nat) (hE : EnvOk (E27 N) ents) (ρ : Type) (args : List AV) (sh : Heap) (K : AV → Heap → Option ρ) (r : ρ) (h : laws_markInt64S_s.en N ρ args sh K = some r) : ∃ v sh', K v sh' = some r ∧ FnOk (E27 N).P 19 args sh v sh' := by
  unfold laws_markInt64S_s.en at h
  split at h
  · exact fn_ok hE (kp := laws_markInt64S_s.kp) (N := N) Go.Proofs.Try.func19 (c := laws_markInt64S_s.bd) (by kernel_rfl) ((laws_markInt64S_s.eq N _ _ _ _ _ _).trans h)
  · exact fn_ok hE (kp := laws_markInt64S_su.kp) (N := N) Go.Proofs.Try.func19 (c := laws_markInt64S_su.bd) (by kernel_rfl) ((laws_markInt64S_su.eq N _ _ _ _ _).trans h)
  · cases h

noncomputable def E28 (N : Nat) : Env := (E27 N).add 19 (laws_markInt64S_s.en N)

theorem E28_ok (N : Nat) : EnvOk (E28 N) ents := Env.add_ok (E27_ok N) (laws_markInt64S_s.en_ok N (E27_ok N))

noncomputable def laws_markInt64SS_sh.kp : Keeps := ⟨[(0, [0, 1, 5], [], [])], [(0, [1], [], [])], []⟩

noncomputable def laws_markInt64SS_sh.bd : Code := bodyOf Go.Proofs.Try.f18

noncomputable def laws_markInt64SS_sh.fin {ρ : Type} (N : Nat) (K : AV → Heap → Option ρ) (gv3 : Nat) (gv4 : Nat) (gv5 : Nat → Nat) (gv6 : Nat → Nat) (gv7 : Nat → Nat) (gv8 : Nat → Int) : XE → St → Option ρ := finK (E28 N) laws_markInt64SS_sh.kp.fins Go.Proofs.Try.f18 [⟨false, .hdr 1 gv3 gv4 gv5 gv6 (some gv7)⟩, ⟨true, .flat 0 (.ints .i64 gv8)⟩] K

noncomputable def laws_markInt64SS_sh.k0 {ρ : Type} (N : Nat) (K : AV → Heap → Option ρ) (gv3 : Nat) (gv4 : Nat) (gv5 : Nat → Nat) (gv6 : Nat → Nat) (gv7 : Nat → Nat) (gv8 : Nat → Int) : XE → St → Option ρ := (blockK laws_markInt64SS_sh.kp 2 0 (seqK (xcode (E28 N) ents laws_markInt64SS_sh.kp 2 N (cB (cB laws_markInt64SS_sh.bd)) 0) (laws_markInt64SS_sh.fin N K gv3 gv4 gv5 gv6 gv7 gv8)))

theorem laws_markInt64SS_sh.k0_mix {ρ : Type} (N : Nat) (K : AV → Heap → Option ρ) (gv3 : Nat) (gv4 : Nat) (gv5 : Nat → Nat) (gv6 : Nat → Nat) (gv7 : Nat → Nat) (gv8 : Nat → Int) : mixK (laws_markInt64SS_sh.fin N K gv3 gv4 gv5 gv6 gv7 gv8 .ret) (laws_markInt64SS_sh.k0 N K gv3 gv4 gv5 gv6 gv7 gv8) = (laws_markInt64SS_sh.k0 N K gv3 gv4 gv5 gv6 gv7 gv8) := by
  funext e s; cases e <;> kernel_rfl

noncomputable def laws_markInt64SS_sh.st0 (av0 : Nat) (av1 : Nat) (gv3 : Nat) (gv4 : Nat) (gv5 : Nat → Nat) (gv6 : Nat → Nat) (gv7 : Nat → Nat) (k9 : Int) (i10 : Int) (gv11 : Nat → Int) : St := ⟨sl 19 [(0, .slice true 0 0 av0 (.exact av1) 1), (1, .int .i64 (k9)), (5, .int .i64 (i10))], [⟨false, .hdr 1 gv3 gv4 gv5 gv6 (some gv7)⟩, ⟨true, .flat 0 (.ints .i64 gv11)⟩]⟩

noncomputable def laws_markInt64SS_sh.sx0_0 (gv3 : Nat) (gv4 : Nat) (gv5 : Nat → Nat) (gv6 : Nat → Nat) (gv7 : Nat → Nat) (ov14 : Int) (ov15 : Nat → Int) : St := ⟨sl 19 [(1, .int .i64 (ov14))], [⟨false, .hdr 1 gv3 gv4 gv5 gv6 (some gv7)⟩, ⟨true, .flat 0 (.ints .i64 ov15)⟩]⟩

theorem laws_markInt64SS_sh.b0_gen {ρ : Type} (N : Nat) (K : AV → Heap → Option ρ) (L0 : St → Option ρ) (kv : XE → St → Option ρ) (av0 : Nat) (av1 : Nat) (gv3 : Nat) (gv4 : Nat) (gv5 : Nat → Nat) (gv6 : Nat → Nat) (gv7 : Nat → Nat) (gv8 : Nat → Int) (k9 : Int) (i10 : Int) (gv11 : Nat → Int) :
    xcode (E28 N) ents laws_markInt64SS_sh.kp 2 N (cL (cK (cB (cA (cB laws_markInt64SS_sh.bd))))) 0 (laws_markInt64SS_sh.st0 av0 av1 gv3 gv4 gv5 gv6 gv7 k9 i10 gv11) (roundK laws_markInt64SS_sh.kp 2 0 L0 (mixK (laws_markInt64SS_sh.fin N K gv3 gv4 gv5 gv6 gv7 gv8 .ret) kv)) = (laws_markInt64SS_sh.b0 N (fun d0 d1 => K (.int .i64 (d0)) [⟨false, .hdr 1 gv3 gv4 gv5 gv6 (some gv7)⟩, ⟨true, .flat 0 (.ints .i64 d1)⟩]) (fun k9 i10 gv11 => L0 (laws_markInt64SS_sh.st0 av0 av1 gv3 gv4 gv5 gv6 gv7 k9 i10 gv11)) (fun ov14 ov15 => kv (.exit 0) (laws_markInt64SS_sh.sx0_0 gv3 gv4 gv5 gv6 gv7 ov14 ov15)) av0 gv5 gv6 gv7 k9 i10 gv11) := by kernel_rfl

theorem laws_markInt64SS_sh.b0_eq {ρ : Type} (N : Nat) (K : AV → Heap → Option ρ) (L0 : St → Option ρ) (av0 : Nat) (av1 : Nat) (gv3 : Nat) (gv4 : Nat) (gv5 : Nat → Nat) (gv6 : Nat → Nat) (gv7 : Nat → Nat) (gv8 : Nat → Int) (k9 : Int) (i10 : Int) (gv11 : Nat → Int) :
    xcode (E28 N) ents laws_markInt64SS_sh.kp 2 N (cL (cK (cB (cA (cB laws_markInt64SS_sh.bd))))) 0 (laws_markInt64SS_sh.st0 av0 av1 gv3 gv4 gv5 gv6 gv7 k9 i10 gv11) (roundK laws_markInt64SS_sh.kp 2 0 L0 (laws_markInt64SS_sh.k0 N K gv3 gv4 gv5 gv6 gv7 gv8)) = (laws_markInt64SS_sh.b0 N (fun d0 d1 => K (.int .i64 (d0)) [⟨false, .hdr 1 gv3 gv4 gv5 gv6 (some gv7)⟩, ⟨true, .flat 0 (.ints .i64 d1)⟩]) (fun k9 i10 gv11 => L0 (laws_markInt64SS_sh.st0 av0 av1 gv3 gv4 gv5 gv6 gv7 k9 i10 gv11)) (fun ov14 ov15 => (laws_markInt64SS_sh.k0 N K gv3 gv4 gv5 gv6 gv7 gv8) (.exit 0) (laws_markInt64SS_sh.sx0_0 gv3 gv4 gv5 gv6 gv7 ov14 ov15)) av0 gv5 gv6 gv7 k9 i10 gv11) := by
  have h := laws_markInt64SS_sh.b0_gen N K L0 (laws_markInt64SS_sh.k0 N K gv3 gv4 gv5 gv6 gv7 gv8) av0 av1 gv3 gv4 gv5 gv6 gv7 gv8 k9 i10 gv11
  rw [laws_markInt64SS_sh.k0_mix] at h
  exact h

theorem laws_markInt64SS_sh.a0_0_eq {ρ : Type} (N : Nat) (K : AV → Heap → Option ρ) (gv3 : Nat) (gv4 : Nat) (gv5 : Nat → Nat) (gv6 : Nat → Nat) (gv7 : Nat → Nat) (gv8 : Nat → Int) (ov14 : Int) (ov15 : Nat → Int) :
    (laws_markInt64SS_sh.k0 N K gv3 gv4 gv5 gv6 gv7 gv8) (.exit 0) (laws_markInt64SS_sh.sx0_0 gv3 gv4 gv5 gv6 gv7 ov14 ov15) = (laws_markInt64SS_sh.a0_0 N (fun d0 d1 => K (.int .i64 (d0)) [⟨false, .hdr 1 gv3 gv4 gv5 gv6 (some gv7)⟩, ⟨true, .flat 0 (.ints .i64 d1)⟩]) ov14 ov15) := by kernel_rfl

theorem laws_markInt64SS_sh.l0_eq {ρ : Type} (N : Nat) (K : AV → Heap → Option ρ) (av0 : Nat) (av1 : Nat) (gv3 : Nat) (gv4 : Nat) (gv5 : Nat → Nat) (gv6 : Nat → Nat) (gv7 : Nat → Nat) (gv8 : Nat → Int) :
    ∀ (m : Nat) (k9 : Int) (i10 : Int) (gv11 : Nat → Int), xloop (xcode (E28 N) ents laws_markInt64SS_sh.kp 2 N (cL (cK (cB (cA (cB laws_markInt64SS_sh.bd))))) 0) laws_markInt64SS_sh.kp 2 0 m (laws_markInt64SS_sh.st0 av0 av1 gv3 gv4 gv5 gv6 gv7 k9 i10 gv11) (laws_markInt64SS_sh.k0 N K gv3 gv4 gv5 gv6 gv7 gv8) = (laws_markInt64SS_sh.l0 N (fun d0 d1 => K (.int .i64 (d0)) [⟨false, .hdr 1 gv3 gv4 gv5 gv6 (some gv7)⟩, ⟨true, .flat 0 (.ints .i64 d1)⟩]) av0 gv5 gv6 gv7 (fun ov14 ov15 => (laws_markInt64SS_sh.k0 N K gv3 gv4 gv5 gv6 gv7 gv8) (.exit 0) (laws_markInt64SS_sh.sx0_0 gv3 gv4 gv5 gv6 gv7 ov14 ov15)) m k9 i10 gv11) := by
  intro m
  induction m with
  | zero => intros; rfl
  | succ m ih =>
    intro k9 i10 gv11
    refine (laws_markInt64SS_sh.b0_eq N K (fun s => xloop (xcode (E28 N) ents laws_markInt64SS_sh.kp 2 N (cL (cK (cB (cA (cB laws_markInt64SS_sh.bd))))) 0) laws_markInt64SS_sh.kp 2 0 m s (laws_markInt64SS_sh.k0 N K gv3 gv4 gv5 gv6 gv7 gv8)) av0 av1 gv3 gv4 gv5 gv6 gv7 gv8 k9 i10 gv11).trans ?_
    simp only [ih]
    kernel_rfl

theorem laws_markInt64SS_sh.s_eq {ρ : Type} (N : Nat) (K : AV → Heap → Option ρ) (av0 : Nat) (av1 : Nat) (k2 : Int) (gv3 : Nat) (gv4 : Nat) (gv5 : Nat → Nat) (gv6 : Nat → Nat) (gv7 : Nat → Nat) (gv8 : Nat → Int) :
    xbody (E28 N) ents laws_markInt64SS_sh.kp N Go.Proofs.Try.f18 laws_markInt64SS_sh.bd [.slice true 0 0 av0 (.exact av1) 1, .int .i64 (k2)] [⟨false, .hdr 1 gv3 gv4 gv5 gv6 (some gv7)⟩, ⟨true, .flat 0 (.ints .i64 gv8)⟩] K = (laws_markInt64SS_sh.s N (fun d0 d1 => K (.int .i64 (d0)) [⟨false, .hdr 1 gv3 gv4 gv5 gv6 (some gv7)⟩, ⟨true, .flat 0 (.ints .i64 d1)⟩]) (fun k9 i10 gv11 => xloop (xcode (E28 N) ents laws_markInt64SS_sh.kp 2 N (cL (cK (cB (cA (cB laws_markInt64SS_sh.bd))))) 0) laws_markInt64SS_sh.kp 2 0 N (laws_markInt64SS_sh.st0 av0 av1 gv3 gv4 gv5 gv6 gv7 k9 i10 gv11) (laws_markInt64SS_sh.k0 N K gv3 gv4 gv5 gv6 gv7 gv8)) k2 gv8) := by kernel_rfl

theorem laws_markInt64SS_sh.eq {ρ : Type} (N : Nat) (K : AV → Heap → Option ρ) (av0 : Nat) (av1 : Nat) (k2 : Int) (gv3 : Nat) (gv4 : Nat) (gv5 : Nat → Nat) (gv6 : Nat → Nat) (gv7 : Nat → Nat) (gv8 : Nat → Int) :
    xbody (E28 N) ents laws_markInt64SS_sh.kp N Go.Proofs.Try.f18 laws_markInt64SS_sh.bd [.slice true 0 0 av0 (.exact av1) 1, .int .i64 (k2)] [⟨false, .hdr 1 gv3 gv4 gv5 gv6 (some gv7)⟩, ⟨true, .flat 0 (.ints .i64 gv8)⟩] K = (laws_markInt64SS_sh N (fun d0 d1 => K (.int .i64 (d0)) [⟨false, .hdr 1 gv3 gv4 gv5 gv6 (some gv7)⟩, ⟨true, .flat 0 (.ints .i64 d1)⟩]) av0 av1 k2 gv3 gv4 gv5 gv6 gv7 gv8) := by
  refine (laws_markInt64SS_sh.s_eq N K av0 av1 k2 gv3 gv4 gv5 gv6 gv7 gv8).trans ?_
  simp only [laws_markInt64SS_sh.l0_eq, laws_markInt64SS_sh.a0_0_eq]
  kernel_rfl

noncomputable def laws_markInt64SS_suh.kp : Keeps := ⟨[(0, [0, 1, 5], [], [])], [(0, [1], [], [])], []⟩

noncomputable def laws_markInt64SS_suh.bd : Code := bodyOf Go.Proofs.Try.f18

noncomputable def laws_markInt64SS_suh.fin {ρ : Type} (N : Nat) (K : AV → Heap → Option ρ) (gv2 : Nat) (gv3 : Nat) (gv4 : Nat → Nat) (gv5 : Nat → Nat) (gv6 : Nat → Int) : XE → St → Option ρ := finK (E28 N) laws_markInt64SS_suh.kp.fins Go.Proofs.Try.f18 [⟨false, .hdr 1 gv2 gv3 gv4 gv5 none⟩, ⟨true, .flat 0 (.ints .i64 gv6)⟩] K

noncomputable def laws_markInt64SS_suh.k0 {ρ : Type} (N : Nat) (K : AV → Heap → Option ρ) (gv2 : Nat) (gv3 : Nat) (gv4 : Nat → Nat) (gv5 : Nat → Nat) (gv6 : Nat → Int) : XE → St → Option ρ := (blockK laws_markInt64SS_suh.kp 2 0 (seqK (xcode (E28 N) ents laws_markInt64SS_suh.kp 2 N (cB (cB laws_markInt64SS_suh.bd)) 0) (laws_markInt64SS_suh.fin N K gv2 gv3 gv4 gv5 gv6)))

theorem laws_markInt64SS_suh.k0_mix {ρ : Type} (N : Nat) (K : AV → Heap → Option ρ) (gv2 : Nat) (gv3 : Nat) (gv4 : Nat → Nat) (gv5 : Nat → Nat) (gv6 : Nat → Int) : mixK (laws_markInt64SS_suh.fin N K gv2 gv3 gv4 gv5 gv6 .ret) (laws_markInt64SS_suh.k0 N K gv2 gv3 gv4 gv5 gv6) = (laws_markInt64SS_suh.k0 N K gv2 gv3 gv4 gv5 gv6) := by
  funext e s; cases e <;> kernel_rfl

noncomputable def laws_markInt64SS_suh.st0 (av0 : Nat) (gv2 : Nat) (gv3 : Nat) (gv4 : Nat → Nat) (gv5 : Nat → Nat) (k7 : Int) (i8 : Int) (gv9 : Nat → Int) : St := ⟨sl 19 [(0, .slice false 0 0 av0 .unk 1), (1, .int .i64 (k7)), (5, .int .i64 (i8))], [⟨false, .hdr 1 gv2 gv3 gv4 gv5 none⟩, ⟨true, .flat 0 (.ints .i64 gv9)⟩]⟩

noncomputable def laws_markInt64SS_suh.sx0_0 (gv2 : Nat) (gv3 : Nat) (gv4 : Nat → Nat) (gv5 : Nat → Nat) (ov12 : Int) (ov13 : Nat → Int) : St := ⟨sl 19 [(1, .int .i64 (ov12))], [⟨false, .hdr 1 gv2 gv3 gv4 gv5 none⟩, ⟨true, .flat 0 (.ints .i64 ov13)⟩]⟩

theorem laws_markInt64SS_suh.b0_gen {ρ : Type} (N : Nat) (K : AV → Heap → Option ρ) (L0 : St → Option ρ) (kv : XE → St → Option ρ) (av0 : Nat) (gv2 : Nat) (gv3 : Nat) (gv4 : Nat → Nat) (gv5 : Nat → Nat) (gv6 : Nat → Int) (k7 : Int) (i8 : Int) (gv9 : Nat → Int) :
    xcode (E28 N) ents laws_markInt64SS_suh.kp 2 N (cL (cK (cB (cA (cB laws_markInt64SS_suh.bd))))) 0 (laws_markInt64SS_suh.st0 av0 gv2 gv3 gv4 gv5 k7 i8 gv9) (roundK laws_markInt64SS_suh.kp 2 0 L0 (mixK (laws_markInt64SS_suh.fin N K gv2 gv3 gv4 gv5 gv6 .ret) kv)) = (laws_markInt64SS_suh.b0 N (fun d0 d1 => K (.int .i64 (d0)) [⟨false, .hdr 1 gv2 gv3 gv4 gv5 none⟩, ⟨true, .flat 0 (.ints .i64 d1)⟩]) (fun k7 i8 gv9 => L0 (laws_markInt64SS_suh.st0 av0 gv2 gv3 gv4 gv5 k7 i8 gv9)) (fun ov12 ov13 => kv (.exit 0) (laws_markInt64SS_suh.sx0_0 gv2 gv3 gv4 gv5 ov12 ov13)) av0 gv4 gv5 k7 i8 gv9) := by kernel_rfl

theorem laws_markInt64SS_suh.b0_eq {ρ : Type} (N : Nat) (K : AV → Heap → Option ρ) (L0 : St → Option ρ) (av0 : Nat) (gv2 : Nat) (gv3 : Nat) (gv4 : Nat → Nat) (gv5 : Nat → Nat) (gv6 : Nat → Int) (k7 : Int) (i8 : Int) (gv9 : Nat → Int) :
    xcode (E28 N) ents laws_markInt64SS_suh.kp 2 N (cL (cK (cB (cA (cB laws_markInt64SS_suh.bd))))) 0 (laws_markInt64SS_suh.st0 av0 gv2 gv3 gv4 gv5 k7 i8 gv9) (roundK laws_markInt64SS_suh.kp 2 0 L0 (laws_markInt64SS_suh.k0 N K gv2 gv3 gv4 gv5 gv6)) = (laws_markInt64SS_suh.b0 N (fun d0 d1 => K (.int .i64 (d0)) [⟨false, .hdr 1 gv2 gv3 gv4 gv5 none⟩, ⟨true, .flat 0 (.ints .i64 d1)⟩]) (fun k7 i8 gv9 => L0 (laws_markInt64SS_suh.st0 av0 gv2 gv3 gv4 gv5 k7 i8 gv9)) (fun ov12 ov13 => (laws_markInt64SS_suh.k0 N K gv2 gv3 gv4 gv5 gv6) (.exit 0) (laws_markInt64SS_suh.sx0_0 gv2 gv3 gv4 gv5 ov12 ov13)) av0 gv4 gv5 k7 i8 gv9) := by
  have h := laws_markInt64SS_suh.b0_gen N K L0 (laws_markInt64SS_suh.k0 N K gv2 gv3 gv4 gv5 gv6) av0 gv2 gv3 gv4 gv5 gv6 k7 i8 gv9
  rw [laws_markInt64SS_suh.k0_mix] at h
  exact h

theorem laws_markInt64SS_suh.a0_0_eq {ρ : Type} (N : Nat) (K : AV → Heap → Option ρ) (gv2 : Nat) (gv3 : Nat) (gv4 : Nat → Nat) (gv5 : Nat → Nat) (gv6 : Nat → Int) (ov12 : Int) (ov13 : Nat → Int) :
    (laws_markInt64SS_suh.k0 N K gv2 gv3 gv4 gv5 gv6) (.exit 0) (laws_markInt64SS_suh.sx0_0 gv2 gv3 gv4 gv5 ov12 ov13) = (laws_markInt64SS_suh.a0_0 N (fun d0 d1 => K (.int .i64 (d0)) [⟨false, .hdr 1 gv2 gv3 gv4 gv5 none⟩, ⟨true, .flat 0 (.ints .i64 d1)⟩]) ov12 ov13) := by kernel_rfl

theorem laws_markInt64SS_suh.l0_eq {ρ : Type} (N : Nat) (K : AV → Heap → Option ρ) (av0 : Nat) (gv2 : Nat) (gv3 : Nat) (gv4 : Nat → Nat) (gv5 : Nat → Nat) (gv6 : Nat → Int) :
    ∀ (m : Nat) (k7 : Int) (i8 : Int) (gv9 : Nat → Int), xloop (xcode (E28 N) ents laws_markInt64SS_suh.kp 2 N (cL (cK (cB (cA (cB laws_markInt64SS_suh.bd))))) 0) laws_markInt64SS_suh.kp 2 0 m (laws_markInt64SS_suh.st0 av0 gv2 gv3 gv4 gv5 k7 i8 gv9) (laws_markInt64SS_suh.k0 N K gv2 gv3 gv4 gv5 gv6) = (laws_markInt64SS_suh.l0 N (fun d0 d1 => K (.int .i64 (d0)) [⟨false, .hdr 1 gv2 gv3 gv4 gv5 none⟩, ⟨true, .flat 0 (.ints .i64 d1)⟩]) av0 gv4 gv5 (fun ov12 ov13 => (laws_markInt64SS_suh.k0 N K gv2 gv3 gv4 gv5 gv6) (.exit 0) (laws_markInt64SS_suh.sx0_0 gv2 gv3 gv4 gv5 ov12 ov13)) m k7 i8 gv9) := by
  intro m
  induction m with
  | zero => intros; rfl
  | succ m ih =>
    intro k7 i8 gv9
    refine (laws_markInt64SS_suh.b0_eq N K (fun s => xloop (xcode (E28 N) ents laws_markInt64SS_suh.kp 2 N (cL (cK (cB (cA (cB laws_markInt64SS_suh.bd))))) 0) laws_markInt64SS_suh.kp 2 0 m s (laws_markInt64SS_suh.k0 N K gv2 gv3 gv4 gv5 gv6)) av0 gv2 gv3 gv4 gv5 gv6 k7 i8 gv9).trans ?_
    simp only [ih]
    kernel_rfl

theorem laws_markInt64SS_suh.s_eq {ρ : Type} (N : Nat) (K : AV → Heap → Option ρ) (av0 : Nat) (k1 : Int) (gv2 : Nat) (gv3 : Nat) (gv4 : Nat → Nat) (gv5 : Nat → Nat) (gv6 : Nat → Int) :
    xbody (E28 N) ents laws_markInt64SS_suh.kp N Go.Proofs.Try.f18 laws_markInt64SS_suh.bd [.slice false 0 0 av0 .unk 1, .int .i64 (k1)] [⟨false, .hdr 1 gv2 gv3 gv4 gv5 none⟩, ⟨true, .flat 0 (.ints .i64 gv6)⟩] K = (laws_markInt64SS_suh.s N (fun d0 d1 => K (.int .i64 (d0)) [⟨false, .hdr 1 gv2 gv3 gv4 gv5 none⟩, ⟨true, .flat 0 (.ints .i64 d1)⟩]) (fun k7 i8 gv9 => xloop (xcode (E28 N) ents laws_markInt64SS_suh.kp 2 N (cL (cK (cB (cA (cB laws_markInt64SS_suh.bd))))) 0) laws_markInt64SS_suh.kp 2 0 N (laws_markInt64SS_suh.st0 av0 gv2 gv3 gv4 gv5 k7 i8 gv9) (laws_markInt64SS_suh.k0 N K gv2 gv3 gv4 gv5 gv6)) k1 gv6) := by kernel_rfl

theorem laws_markInt64SS_suh.eq {ρ : Type} (N : Nat) (K : AV → Heap → Option ρ) (av0 : Nat) (k1 : Int) (gv2 : Nat) (gv3 : Nat) (gv4 : Nat → Nat) (gv5 : Nat → Nat) (gv6 : Nat → Int) :
    xbody (E28 N) ents laws_markInt64SS_suh.kp N Go.Proofs.Try.f18 laws_markInt64SS_suh.bd [.slice false 0 0 av0 .unk 1, .int .i64 (k1)] [⟨false, .hdr 1 gv2 gv3 gv4 gv5 none⟩, ⟨true, .flat 0 (.ints .i64 gv6)⟩] K = (laws_markInt64SS_suh N (fun d0 d1 => K (.int .i64 (d0)) [⟨false, .hdr 1 gv2 gv3 gv4 gv5 none⟩, ⟨true, .flat 0 (.ints .i64 d1)⟩]) av0 k1 gv2 gv3 gv4 gv5 gv6) := by
  refine (laws_markInt64SS_suh.s_eq N K av0 k1 gv2 gv3 gv4 gv5 gv6).trans ?_
  simp only [laws_markInt64SS_suh.l0_eq, laws_markInt64SS_suh.a0_0_eq]
  kernel_rfl

noncomputable def laws_markInt64SS_sh.en (N : Nat) (ρ : Type) : List AV → Heap → (AV → Heap → Option ρ) → Option ρ
  | [.slice true 0 0 av0 (.exact av1) 1, .int .i64 (k2)], [⟨false, .hdr 1 gv3 gv4 gv5 gv6 (some gv7)⟩, ⟨true, .flat 0 (.ints .i64 gv8)⟩], K => (laws_markInt64SS_sh N (fun d0 d1 => K (.int .i64 (d0)) [⟨false, .hdr 1 gv3 gv4 gv5 gv6 (some gv7)⟩, ⟨true, .flat 0 (.ints .i64 d1)⟩]) av0 av1 k2 gv3 gv4 gv5 gv6 gv7 gv8)
  | [.slice false 0 0 av0 .unk 1, .int .i64 (k1)], [⟨false, .hdr 1 gv2 gv3 gv4 gv5 none⟩, ⟨true, .flat 0 (.ints .i64 gv6)⟩], K => (laws_markInt64SS_suh N (fun d0 d1 => K (.int .i64 (d0)) [⟨false, .hdr 1 gv2 gv3 gv4 gv5 none⟩, ⟨true, .flat 0 (.ints .i64 d1)⟩]) av0 k1 gv2 gv3 gv4 gv5 gv6)
  | _, _, _ => none

theorem laws_markInt64SS_sh.en_ok (N : Nat) (hE : EnvOk (E28 N) ents) (ρ : Type) (args : List AV) (sh : Heap) (K : AV → Heap → Option ρ) (r : ρ) (h : laws_markInt64SS_sh.en N ρ args sh K = some r) : ∃ v sh', K v sh' = some r ∧ FnOk (E28 N).P 18 args sh v sh' := by
  unfold laws_markInt64SS_sh.en at h
  split at h
  · exact fn_ok hE (kp := laws_markInt64SS_sh.kp) (N := N) Go.Proofs.Try.func18 (c := laws_markInt64SS_sh.bd) (by kernel_rfl) ((laws_markInt64SS_sh.eq N _ _ _ _ _ _ _ _ _ _).trans h)
  · exact fn_ok hE (kp := laws_markInt64SS_suh.kp) (N := N) Go.Proofs.Try.func18 (c := laws_markInt64SS_suh.bd) (by kernel_rfl) ((laws_markInt64SS_suh.eq N _ _ _ _ _ _ _ _).trans h)
  · cases h

noncomputable def E29 (N : Nat) : Env := (E28 N).add 18 (laws_markInt64SS_sh.en N)

theorem E29_ok (N : Nat) : EnvOk (E29 N) ents := Env.add_ok (E28_ok N) (laws_markInt64SS_sh.en_ok N (E28_ok N))

noncomputable def laws_heldInt64S_su.kp : Keeps := ⟨[(0, [0, 1, 5], [], [])], [(0, [1], [], [])], []⟩

noncomputable def laws_heldInt64S_su.bd : Code := bodyOf Go.Proofs.Try.f20

noncomputable def laws_heldInt64S_su.fin {ρ : Type} (N : Nat) (K : AV → Heap → Option ρ) (gv2 : Nat) (gv3 : Nat → Int) : XE → St → Option ρ := finK (E29 N) laws_heldInt64S_su.kp.fins Go.Proofs.Try.f20 [⟨false, .flat gv2 (.ints .i64 gv3)⟩] K

noncomputable def laws_heldInt64S_su.k0 {ρ : Type} (N : Nat) (K : AV → Heap → Option ρ) (gv2 : Nat) (gv3 : Nat → Int) : XE → St → Option ρ := (blockK laws_heldInt64S_su.kp 1 0 (seqK (xcode (E29 N) ents laws_heldInt64S_su.kp 1 N (cB (cB laws_heldInt64S_su.bd)) 0) (laws_heldInt64S_su.fin N K gv2 gv3)))

theorem laws_heldInt64S_su.k0_mix {ρ : Type} (N : Nat) (K : AV → Heap → Option ρ) (gv2 : Nat) (gv3 : Nat → Int) : mixK (laws_heldInt64S_su.fin N K gv2 gv3 .ret) (laws_heldInt64S_su.k0 N K gv2 gv3) = (laws_heldInt64S_su.k0 N K gv2 gv3) := by
  funext e s; cases e <;> kernel_rfl

noncomputable def laws_heldInt64S_su.st0 (av0 : Nat) (gv2 : Nat) (gv3 : Nat → Int) (k4 : Int) (i5 : Int) : St := ⟨sl 21 [(0, .slice false 0 0 av0 .unk 1), (1, .int .i64 (k4)), (5, .int .i64 (i5))], [⟨false, .flat gv2 (.ints .i64 gv3)⟩]⟩

noncomputable def laws_heldInt64S_su.sx0_0 (gv2 : Nat) (gv3 : Nat → Int) (ov6 : Int) : St := ⟨sl 21 [(1, .int .i64 (ov6))], [⟨false, .flat gv2 (.ints .i64 gv3)⟩]⟩

theorem laws_heldInt64S_su.b0_gen {ρ : Type} (N : Nat) (K : AV → Heap → Option ρ) (L0 : St → Option ρ) (kv : XE → St → Option ρ) (av0 : Nat) (gv2 : Nat) (gv3 : Nat → Int) (k4 : Int) (i5 : Int) :
    xcode (E29 N) ents laws_heldInt64S_su.kp 1 N (cL (cK (cB (cA (cB laws_heldInt64S_su.bd))))) 0 (laws_heldInt64S_su.st0 av0 gv2 gv3 k4 i5) (roundK laws_heldInt64S_su.kp 1 0 L0 (mixK (laws_heldInt64S_su.fin N K gv2 gv3 .ret) kv)) = (laws_heldInt64S_su.b0 N (fun d0 => K (.int .i64 (d0)) [⟨false, .flat gv2 (.ints .i64 gv3)⟩]) (fun k4 i5 => L0 (laws_heldInt64S_su.st0 av0 gv2 gv3 k4 i5)) (fun ov6 => kv (.exit 0) (laws_heldInt64S_su.sx0_0 gv2 gv3 ov6)) av0 gv3 k4 i5) := by kernel_rfl

theorem laws_heldInt64S_su.b0_eq {ρ : Type} (N : Nat) (K : AV → Heap → Option ρ) (L0 : St → Option ρ) (av0 : Nat) (gv2 : Nat) (gv3 : Nat → Int) (k4 : Int) (i5 : Int) :
    xcode (E29 N) ents laws_heldInt64S_su.kp 1 N (cL (cK (cB (cA (cB laws_heldInt64S_su.bd))))) 0 (laws_heldInt64S_su.st0 av0 gv2 gv3 k4 i5) (roundK laws_heldInt64S_su.kp 1 0 L0 (laws_heldInt64S_su.k0 N K gv2 gv3)) = (laws_heldInt64S_su.b0 N (fun d0 => K (.int .i64 (d0)) [⟨false, .flat gv2 (.ints .i64 gv3)⟩]) (fun k4 i5 => L0 (laws_heldInt64S_su.st0 av0 gv2 gv3 k4 i5)) (fun ov6 => (laws_heldInt64S_su.k0 N K gv2 gv3) (.exit 0) (laws_heldInt64S_su.sx0_0 gv2 gv3 ov6)) av0 gv3 k4 i5) := by
  have h := laws_heldInt64S_su.b0_gen N K L0 (laws_heldInt64S_su.k0 N K gv2 gv3) av0 gv2 gv3 k4 i5
  rw [laws_heldInt64S_su.k0_mix] at h
  exact h

theorem laws_heldInt64S_su.a0_0_eq {ρ : Type} (N : Nat) (K : AV → Heap → Option ρ) (gv2 : Nat) (gv3 : Nat → Int) (ov6 : Int) :
    (laws_heldInt64S_su.k0 N K gv2 gv3) (.exit 0) (laws_heldInt64S_su.sx0_0 gv2 gv3 ov6) = (laws_heldInt64S_su.a0_0 N (fun d0 => K (.int .i64 (d0)) [⟨false, .flat gv2 (.ints .i64 gv3)⟩]) ov6) := by kernel_rfl

theorem laws_heldInt64S_su.l0_eq {ρ : Type} (N : Nat) (K : AV → Heap → Option ρ) (av0 : Nat) (gv2 : Nat) (gv3 : Nat → Int) :
    ∀ (m : Nat) (k4 : Int) (i5 : Int), xloop (xcode (E29 N) ents laws_heldInt64S_su.kp 1 N (cL (cK (cB (cA (cB laws_heldInt64S_su.bd))))) 0) laws_heldInt64S_su.kp 1 0 m (laws_heldInt64S_su.st0 av0 gv2 gv3 k4 i5) (laws_heldInt64S_su.k0 N K gv2 gv3) = (laws_heldInt64S_su.l0 N (fun d0 => K (.int .i64 (d0)) [⟨false, .flat gv2 (.ints .i64 gv3)⟩]) av0 gv3 (fun ov6 => (laws_heldInt64S_su.k0 N K gv2 gv3) (.exit 0) (laws_heldInt64S_su.sx0_0 gv2 gv3 ov6)) m k4 i5) := by
  intro m
  induction m with
  | zero => intros; rfl
  | succ m ih =>
    intro k4 i5
    refine (laws_heldInt64S_su.b0_eq N K (fun s => xloop (xcode (E29 N) ents laws_heldInt64S_su.kp 1 N (cL (cK (cB (cA (cB laws_heldInt64S_su.bd))))) 0) laws_heldInt64S_su.kp 1 0 m s (laws_heldInt64S_su.k0 N K gv2 gv3)) av0 gv2 gv3 k4 i5).trans ?_
    simp only [ih]
    kernel_rfl

theorem laws_heldInt64S_su.s_eq {ρ : Type} (N : Nat) (K : AV → Heap → Option ρ) (av0 : Nat) (k1 : Int) (gv2 : Nat) (gv3 : Nat → Int) :
    xbody (E29 N) ents laws_heldInt64S_su.kp N Go.Proofs.Try.f20 laws_heldInt64S_su.bd [.slice false 0 0 av0 .unk 1, .int .i64 (k1)] [⟨false, .flat gv2 (.ints .i64 gv3)⟩] K = (laws_heldInt64S_su.s N (fun d0 => K (.int .i64 (d0)) [⟨false, .flat gv2 (.ints .i64 gv3)⟩]) (fun k4 i5 => xloop (xcode (E29 N) ents laws_heldInt64S_su.kp 1 N (cL (cK (cB (cA (cB laws_heldInt64S_su.bd))))) 0) laws_heldInt64S_su.kp 1 0 N (laws_heldInt64S_su.st0 av0 gv2 gv3 k4 i5) (laws_heldInt64S_su.k0 N K gv2 gv3)) k1) := by kernel_rfl

theorem laws_heldInt64S_su.eq {ρ : Type} (N : Nat) (K : AV → Heap → Option ρ) (av0 : Nat) (k1 : Int) (gv2 : Nat) (gv3 : Nat → Int) :
    xbody (E29 N) ents laws_heldInt64S_su.kp N Go.Proofs.Try.f20 laws_heldInt64S_su.bd [.slice false 0 0 av0 .unk 1, .int .i64 (k1)] [⟨false, .flat gv2 (.ints .i64 gv3)⟩] K = (laws_heldInt64S_su N (fun d0 => K (.int .i64 (d0)) [⟨false, .flat gv2 (.ints .i64 gv3)⟩]) av0 k1 gv2 gv3) := by
  refine (laws_heldInt64S_su.s_eq N K av0 k1 gv2 gv3).trans ?_
  simp only [laws_heldInt64S_su.l0_eq, laws_heldInt64S_su.a0_0_eq]
  kernel_rfl

noncomputable def laws_heldInt64S_su.en (N : Nat) (ρ : Type) : List AV → Heap → (AV → Heap → Option ρ) → Option ρ
  | [.slice false 0 0 av0 .unk 1, .int .i64 (k1)], [⟨false, .flat gv2 (.ints .i64 gv3)⟩], K => (laws_heldInt64S_su N (fun d0 => K (.int .i64 (d0)) [⟨false, .flat gv2 (.ints .i64 gv3)⟩]) av0 k1 gv2 gv3)
  | _, _, _ => none

theorem laws_heldInt64S_su.en_ok (N : Nat) (hE : EnvOk (E29 N) ents) (ρ : Type) (args : List AV) (sh : Heap) (K : AV → Heap → Option ρ) (r : ρ) (h : laws_heldInt64S_su.en N ρ args sh K = some r) : ∃ v sh', K v sh' = some r ∧ FnOk (E29 N).P 20 args sh v sh' := by
  unfold laws_heldInt64S_su.en at h
  split at h
  · exact fn_ok hE (kp := laws_heldInt64S_su.kp) (N := N) Go.Proofs.Try.func20 (c := laws_heldInt64S_su.bd) (by kernel_rfl) ((laws_heldInt64S_su.eq N _ _ _ _ _).trans h)
  · cases h

noncomputable def E30 (N : Nat) : Env := (E29 N).add 20 (laws_heldInt64S_su.en N)

theorem E30_ok (N : Nat) : EnvOk (E30 N) ents := Env.add_ok (E29_ok N) (laws_heldInt64S_su.en_ok N (E29_ok N))

noncomputable def laws_heldInt64SS_suh.kp : Keeps := ⟨[(0, [0, 1, 5], [], [])], [(0, [1], [], [])], []⟩

noncomputable def laws_heldInt64SS_suh.bd : Code := bodyOf Go.Proofs.Try.f24

noncomputable def laws_heldInt64SS_suh.fin {ρ : Type} (N : Nat) (K : AV → Heap → Option ρ) (gv2 : Nat) (gv3 : Nat) (gv4 : Nat → Nat) (gv5 : Nat → Nat) (gv6 : Nat → Int) : XE → St → Option ρ := finK (E30 N) laws_heldInt64SS_suh.kp.fins Go.Proofs.Try.f24 [⟨false, .hdr 1 gv2 gv3 gv4 gv5 none⟩, ⟨false, .flat 0 (.ints .i64 gv6)⟩] K

noncomputable def laws_heldInt64SS_suh.k0 {ρ : Type} (N : Nat) (K : AV → Heap → Option ρ) (gv2 : Nat) (gv3 : Nat) (gv4 : Nat → Nat) (gv5 : Nat → Nat) (gv6 : Nat → Int) : XE → St → Option ρ := (blockK laws_heldInt64SS_suh.kp 2 0 (seqK (xcode (E30 N) ents laws_heldInt64SS_suh.kp 2 N (cB (cB laws_heldInt64SS_suh.bd)) 0) (laws_heldInt64SS_suh.fin N K gv2 gv3 gv4 gv5 gv6)))

theorem laws_heldInt64SS_suh.k0_mix {ρ : Type} (N : Nat) (K : AV → Heap → Option ρ) (gv2 : Nat) (gv3 : Nat) (gv4 : Nat → Nat) (gv5 : Nat → Nat) (gv6 : Nat → Int) : mixK (laws_heldInt64SS_suh.fin N K gv2 gv3 gv4 gv5 gv6 .ret) (laws_heldInt64SS_suh.k0 N K gv2 gv3 gv4 gv5 gv6) = (laws_heldInt64SS_suh.k0 N K gv2 gv3 gv4 gv5 gv6) := by
  funext e s; cases e <;> kernel_rfl

noncomputable def laws_heldInt64SS_suh.st0 (av0 : Nat) (gv2 : Nat) (gv3 : Nat) (gv4 : Nat → Nat) (gv5 : Nat → Nat) (gv6 : Nat → Int) (k7 : Int) (i8 : Int) : St := ⟨sl 21 [(0, .slice false 0 0 av0 .unk 1), (1, .int .i64 (k7)), (5, .int .i64 (i8))], [⟨false, .hdr 1 gv2 gv3 gv4 gv5 none⟩, ⟨false, .flat 0 (.ints .i64 gv6)⟩]⟩

noncomputable def laws_heldInt64SS_suh.sx0_0 (gv2 : Nat) (gv3 : Nat) (gv4 : Nat → Nat) (gv5 : Nat → Nat) (gv6 : Nat → Int) (ov10 : Int) : St := ⟨sl 21 [(1, .int .i64 (ov10))], [⟨false, .hdr 1 gv2 gv3 gv4 gv5 none⟩, ⟨false, .flat 0 (.ints .i64 gv6)⟩]⟩

theorem laws_heldInt64SS_suh.b0_gen {ρ : Type} (N : Nat) (K : AV → Heap → Option ρ) (L0 : St → Option ρ) (kv : XE → St → Option ρ) (av0 : Nat) (gv2 : Nat) (gv3 : Nat) (gv4 : Nat → Nat) (gv5 : Nat → Nat) (gv6 : Nat → Int) (k7 : Int) (i8 : Int) :
    xcode (E30 N) ents laws_heldInt64SS_suh.kp 2 N (cL (cK (cB (cA (cB laws_heldInt64SS_suh.bd))))) 0 (laws_heldInt64SS_suh.st0 av0 gv2 gv3 gv4 gv5 gv6 k7 i8) (roundK laws_heldInt64SS_suh.kp 2 0 L0 (mixK (laws_heldInt64SS_suh.fin N K gv2 gv3 gv4 gv5 gv6 .ret) kv)) = (laws_heldInt64SS_suh.b0 N (fun d0 => K (.int .i64 (d0)) [⟨false, .hdr 1 gv2 gv3 gv4 gv5 none⟩, ⟨false, .flat 0 (.ints .i64 gv6)⟩]) (fun k7 i8 => L0 (laws_heldInt64SS_suh.st0 av0 gv2 gv3 gv4 gv5 gv6 k7 i8)) (fun ov10 => kv (.exit 0) (laws_heldInt64SS_suh.sx0_0 gv2 gv3 gv4 gv5 gv6 ov10)) av0 gv4 gv5 gv6 k7 i8) := by kernel_rfl

theorem laws_heldInt64SS_suh.b0_eq {ρ : Type} (N : Nat) (K : AV → Heap → Option ρ) (L0 : St → Option ρ) (av0 : Nat) (gv2 : Nat) (gv3 : Nat) (gv4 : Nat → Nat) (gv5 : Nat → Nat) (gv6 : Nat → Int) (k7 : Int) (i8 : Int) :
    xcode (E30 N) ents laws_heldInt64SS_suh.kp 2 N (cL (cK (cB (cA (cB laws_heldInt64SS_suh.bd))))) 0 (laws_heldInt64SS_suh.st0 av0 gv2 gv3 gv4 gv5 gv6 k7 i8) (roundK laws_heldInt64SS_suh.kp 2 0 L0 (laws_heldInt64SS_suh.k0 N K gv2 gv3 gv4 gv5 gv6)) = (laws_heldInt64SS_suh.b0 N (fun d0 => K (.int .i64 (d0)) [⟨false, .hdr 1 gv2 gv3 gv4 gv5 none⟩, ⟨false, .flat 0 (.ints .i64 gv6)⟩]) (fun k7 i8 => L0 (laws_heldInt64SS_suh.st0 av0 gv2 gv3 gv4 gv5 gv6 k7 i8)) (fun ov10 => (laws_heldInt64SS_suh.k0 N K gv2 gv3 gv4 gv5 gv6) (.exit 0) (laws_heldInt64SS_suh.sx0_0 gv2 gv3 gv4 gv5 gv6 ov10)) av0 gv4 gv5 gv6 k7 i8) := by
  have h := laws_heldInt64SS_suh.b0_gen N K L0 (laws_heldInt64SS_suh.k0 N K gv2 gv3 gv4 gv5 gv6) av0 gv2 gv3 gv4 gv5 gv6 k7 i8
  rw [laws_heldInt64SS_suh.k0_mix] at h
  exact h

theorem laws_heldInt64SS_suh.a0_0_eq {ρ : Type} (N : Nat) (K : AV → Heap → Option ρ) (gv2 : Nat) (gv3 : Nat) (gv4 : Nat → Nat) (gv5 : Nat → Nat) (gv6 : Nat → Int) (ov10 : Int) :
    (laws_heldInt64SS_suh.k0 N K gv2 gv3 gv4 gv5 gv6) (.exit 0) (laws_heldInt64SS_suh.sx0_0 gv2 gv3 gv4 gv5 gv6 ov10) = (laws_heldInt64SS_suh.a0_0 N (fun d0 => K (.int .i64 (d0)) [⟨false, .hdr 1 gv2 gv3 gv4 gv5 none⟩, ⟨false, .flat 0 (.ints .i64 gv6)⟩]) ov10) := by kernel_rfl

theorem laws_heldInt64SS_suh.l0_eq {ρ : Type} (N : Nat) (K : AV → Heap → Option ρ) (av0 : Nat) (gv2 : Nat) (gv3 : Nat) (gv4 : Nat → Nat) (gv5 : Nat → Nat) (gv6 : Nat → Int) :
    ∀ (m : Nat) (k7 : Int) (i8 : Int), xloop (xcode (E30 N) ents laws_heldInt64SS_suh.kp 2 N (cL (cK (cB (cA (cB laws_heldInt64SS_suh.bd))))) 0) laws_heldInt64SS_suh.kp 2 0 m (laws_heldInt64SS_suh.st0 av0 gv2 gv3 gv4 gv5 gv6 k7 i8) (laws_heldInt64SS_suh.k0 N K gv2 gv3 gv4 gv5 gv6) = (laws_heldInt64SS_suh.l0 N (fun d0 => K (.int .i64 (d0)) [⟨false, .hdr 1 gv2 gv3 gv4 gv5 none⟩, ⟨false, .flat 0 (.ints .i64 gv6)⟩]) av0 gv4 gv5 gv6 (fun ov10 => (laws_heldInt64SS_suh.k0 N K gv2 gv3 gv4 gv5 gv6) (.exit 0) (laws_heldInt64SS_suh.sx0_0 gv2 gv3 gv4 gv5 gv6 ov10)) m k7 i8) := by
  intro m
  induction m with
  | zero => intros; rfl
  | succ m ih =>
    intro k7 i8
    refine (laws_heldInt64SS_suh.b0_eq N K (fun s => xloop (xcode (E30 N) ents laws_heldInt64SS_suh.kp 2 N (cL (cK (cB (cA (cB laws_heldInt64SS_suh.bd))))) 0) laws_heldInt64SS_suh.kp 2 0 m s (laws_heldInt64SS_suh.k0 N K gv2 gv3 gv4 gv5 gv6)) av0 gv2 gv3 gv4 gv5 gv6 k7 i8).trans ?_
    simp only [ih]
    kernel_rfl

theorem laws_heldInt64SS_suh.s_eq {ρ : Type} (N : Nat) (K : AV → Heap → Option ρ) (av0 : Nat) (k1 : Int) (gv2 : Nat) (gv3 : Nat) (gv4 : Nat → Nat) (gv5 : Nat → Nat) (gv6 : Nat → Int) :
    xbody (E30 N) ents laws_heldInt64SS_suh.kp N Go.Proofs.Try.f24 laws_heldInt64SS_suh.bd [.slice false 0 0 av0 .unk 1, .int .i64 (k1)] [⟨false, .hdr 1 gv2 gv3 gv4 gv5 none⟩, ⟨false, .flat 0 (.ints .i64 gv6)⟩] K = (laws_heldInt64SS_suh.s N (fun d0 => K (.int .i64 (d0)) [⟨false, .hdr 1 gv2 gv3 gv4 gv5 none⟩, ⟨false, .flat 0 (.ints .i64 gv6)⟩]) (fun k7 i8 => xloop (xcode (E30 N) ents laws_heldInt64SS_suh.kp 2 N (cL (cK (cB (cA (cB laws_heldInt64SS_suh.bd))))) 0) laws_heldInt64SS_suh.kp 2 0 N (laws_heldInt64SS_suh.st0 av0 gv2 gv3 gv4 gv5 gv6 k7 i8) (laws_heldInt64SS_suh.k0 N K gv2 gv3 gv4 gv5 gv6)) k1) := by kernel_rfl

theorem laws_heldInt64SS_suh.eq {ρ : Type} (N : Nat) (K : AV → Heap → Option ρ) (av0 : Nat) (k1 : Int) (gv2 : Nat) (gv3 : Nat) (gv4 : Nat → Nat) (gv5 : Nat → Nat) (gv6 : Nat → Int) :
    xbody (E30 N) ents laws_heldInt64SS_suh.kp N Go.Proofs.Try.f24 laws_heldInt64SS_suh.bd [.slice false 0 0 av0 .unk 1, .int .i64 (k1)] [⟨false, .hdr 1 gv2 gv3 gv4 gv5 none⟩, ⟨false, .flat 0 (.ints .i64 gv6)⟩] K = (laws_heldInt64SS_suh N (fun d0 => K (.int .i64 (d0)) [⟨false, .hdr 1 gv2 gv3 gv4 gv5 none⟩, ⟨false, .flat 0 (.ints .i64 gv6)⟩]) av0 k1 gv2 gv3 gv4 gv5 gv6) := by
  refine (laws_heldInt64SS_suh.s_eq N K av0 k1 gv2 gv3 gv4 gv5 gv6).trans ?_
  simp only [laws_heldInt64SS_suh.l0_eq, laws_heldInt64SS_suh.a0_0_eq]
  kernel_rfl

noncomputable def laws_heldInt64SS_suh.en (N : Nat) (ρ : Type) : List AV → Heap → (AV → Heap → Option ρ) → Option ρ
  | [.slice false 0 0 av0 .unk 1, .int .i64 (k1)], [⟨false, .hdr 1 gv2 gv3 gv4 gv5 none⟩, ⟨false, .flat 0 (.ints .i64 gv6)⟩], K => (laws_heldInt64SS_suh N (fun d0 => K (.int .i64 (d0)) [⟨false, .hdr 1 gv2 gv3 gv4 gv5 none⟩, ⟨false, .flat 0 (.ints .i64 gv6)⟩]) av0 k1 gv2 gv3 gv4 gv5 gv6)
  | _, _, _ => none

theorem laws_heldInt64SS_suh.en_ok (N : Nat) (hE : EnvOk (E30 N) ents) (ρ : Type) (args : List AV) (sh : Heap) (K : AV → Heap → Option ρ) (r : ρ) (h : laws_heldInt64SS_suh.en N ρ args sh K = some r) : ∃ v sh', K v sh' = some r ∧ FnOk (E30 N).P 24 args sh v sh' := by
  unfold laws_heldInt64SS_suh.en at h
  split at h
  · exact fn_ok hE (kp := laws_heldInt64SS_suh.kp) (N := N) Go.Proofs.Try.func24 (c := laws_heldInt64SS_suh.bd) (by kernel_rfl) ((laws_heldInt64SS_suh.eq N _ _ _ _ _ _ _ _).trans h)
  · cases h

noncomputable def E31 (N : Nat) : Env := (E30 N).add 24 (laws_heldInt64SS_suh.en N)

theorem E31_ok (N : Nat) : EnvOk (E31 N) ents := Env.add_ok (E30_ok N) (laws_heldInt64SS_suh.en_ok N (E30_ok N))

noncomputable def laws_FnExactProductOfTables_suhsuh.kp : Keeps := ⟨[], [], []⟩

noncomputable def laws_FnExactProductOfTables_suhsuh.bd : Code := bodyOf Go.Proofs.Try.f6

noncomputable def laws_FnExactProductOfTables_suhsuh.fin {ρ : Type} (N : Nat) (K : AV → Heap → Option ρ) (gv2 : Nat) (gv3 : Nat) (gv4 : Nat → Nat) (gv5 : Nat → Nat) (gv6 : Nat) (gv7 : Nat → Int) (gv8 : Nat) (gv9 : Nat) (gv10 : Nat → Nat) (gv11 : Nat → Nat) (gv12 : Nat) (gv13 : Nat → Int) : XE → St → Option ρ := finK (E31 N) laws_FnExactProductOfTables_suhsuh.kp.fins Go.Proofs.Try.f6 [⟨false, .hdr 1 gv2 gv3 gv4 gv5 none⟩, ⟨false, .flat gv6 (.ints .i64 gv7)⟩, ⟨false, .hdr 3 gv8 gv9 gv10 gv11 none⟩, ⟨false, .flat gv12 (.ints .i64 gv13)⟩] K

theorem laws_FnExactProductOfTables_suhsuh.eq {ρ : Type} (N : Nat) (K : AV → Heap → Option ρ) (aTable0 : Nat) (aOther1 : Nat) (gv2 : Nat) (gv3 : Nat) (gv4 : Nat → Nat) (gv5 : Nat → Nat) (gv6 : Nat) (gv7 : Nat → Int) (gv8 : Nat) (gv9 : Nat) (gv10 : Nat → Nat) (gv11 : Nat → Nat) (gv12 : Nat) (gv13 : Nat → Int) :
    xbody (E31 N) ents laws_FnExactProductOfTables_suhsuh.kp N Go.Proofs.Try.f6 laws_FnExactProductOfTables_suhsuh.bd [.slice false 0 0 aTable0 .unk 1, .slice false 2 0 aOther1 .unk 1] [⟨false, .hdr 1 gv2 gv3 gv4 gv5 none⟩, ⟨false, .flat gv6 (.ints .i64 gv7)⟩, ⟨false, .hdr 3 gv8 gv9 gv10 gv11 none⟩, ⟨false, .flat gv12 (.ints .i64 gv13)⟩] K = (laws_FnExactProductOfTables_suhsuh N (fun d0 => K (.bool (d0)) [⟨false, .hdr 1 gv2 gv3 gv4 gv5 none⟩, ⟨false, .flat gv6 (.ints .i64 gv7)⟩, ⟨false, .hdr 3 gv8 gv9 gv10 gv11 none⟩, ⟨false, .flat gv12 (.ints .i64 gv13)⟩]) aTable0 aOther1 gv2 gv3 gv4 gv5 gv6 gv7 gv8 gv9 gv10 gv11 gv12 gv13) := by kernel_rfl

noncomputable def laws_FnExactProductOfTables_suhsuh.en (N : Nat) (ρ : Type) : List AV → Heap → (AV → Heap → Option ρ) → Option ρ
  | [.slice false 0 0 aTable0 .unk 1, .slice false 2 0 aOther1 .unk 1], [⟨false, .hdr 1 gv2 gv3 gv4 gv5 none⟩, ⟨false, .flat gv6 (.ints .i64 gv7)⟩, ⟨false, .hdr 3 gv8 gv9 gv10 gv11 none⟩, ⟨false, .flat gv12 (.ints .i64 gv13)⟩], K => (laws_FnExactProductOfTables_suhsuh N (fun d0 => K (.bool (d0)) [⟨false, .hdr 1 gv2 gv3 gv4 gv5 none⟩, ⟨false, .flat gv6 (.ints .i64 gv7)⟩, ⟨false, .hdr 3 gv8 gv9 gv10 gv11 none⟩, ⟨false, .flat gv12 (.ints .i64 gv13)⟩]) aTable0 aOther1 gv2 gv3 gv4 gv5 gv6 gv7 gv8 gv9 gv10 gv11 gv12 gv13)
  | _, _, _ => none

theorem laws_FnExactProductOfTables_suhsuh.en_ok (N : Nat) (hE : EnvOk (E31 N) ents) (ρ : Type) (args : List AV) (sh : Heap) (K : AV → Heap → Option ρ) (r : ρ) (h : laws_FnExactProductOfTables_suhsuh.en N ρ args sh K = some r) : ∃ v sh', K v sh' = some r ∧ FnOk (E31 N).P 6 args sh v sh' := by
  unfold laws_FnExactProductOfTables_suhsuh.en at h
  split at h
  · exact fn_ok hE (kp := laws_FnExactProductOfTables_suhsuh.kp) (N := N) Go.Proofs.Try.func6 (c := laws_FnExactProductOfTables_suhsuh.bd) (by kernel_rfl) ((laws_FnExactProductOfTables_suhsuh.eq N _ _ _ _ _ _ _ _ _ _ _ _ _ _ _).trans h)
  · cases h

noncomputable def E32 (N : Nat) : Env := (E31 N).add 6 (laws_FnExactProductOfTables_suhsuh.en N)

theorem E32_ok (N : Nat) : EnvOk (E32 N) ents := Env.add_ok (E31_ok N) (laws_FnExactProductOfTables_suhsuh.en_ok N (E31_ok N))
end Go.Proofs.YtiifnnokpjbapaaRR.H
