/- The program computes these functions. -/
import Derived.Test.YtiifnnokpjbapaaRRHL1
namespace Go.Proofs.YtiifnnokpjbapaaRR.H
set_option linter.unusedVariables false
set_option linter.unusedSimpArgs false
open Go Go.RowKit Go.Proofs.YtiifnnokpjbapaaRR.Hy
set_option linter.unusedVariables false
set_option maxRecDepth 100000
noncomputable def impl_IsGroupTable_sh.en (N : Nat) (ρ : Type) : List AV → Heap → (AV → Heap → Option ρ) → Option ρ
  | [.slice true 0 0 table0 (.exact table1) 1], [⟨false, .hdr 1 gv2 gv3 gv4 gv5 (some gv6)⟩, ⟨false, .flat 0 (.ints .i64 gv7)⟩], K => (impl_IsGroupTable_sh N (fun d0 => K (.bool (d0)) [⟨false, .hdr 1 gv2 gv3 gv4 gv5 (some gv6)⟩, ⟨false, .flat 0 (.ints .i64 gv7)⟩]) table0 table1 gv2 gv3 gv4 gv5 gv6 gv7)
  | [.nils], [], K => (impl_IsGroupTable_n N (fun d0 => K (.bool (d0)) []))
  | _, _, _ => none

theorem impl_IsGroupTable_sh.en_ok (N : Nat) (hE : EnvOk (E15 N) ents) (ρ : Type) (args : List AV) (sh : Heap) (K : AV → Heap → Option ρ) (r : ρ) (h : impl_IsGroupTable_sh.en N ρ args sh K = some r) : ∃ v sh', K v sh' = some r ∧ FnOk (E15 N).P 11 args sh v sh' := by
  unfold impl_IsGroupTable_sh.en at h
  split at h
  · exact fn_ok hE (kp := impl_IsGroupTable_sh.kp) (N := N) Go.Proofs.Try.func11 (c := impl_IsGroupTable_sh.bd) (by kernel_rfl) ((impl_IsGroupTable_sh.eq N _ _ _ _ _ _ _ _ _).trans h)
  · exact fn_ok hE (kp := impl_IsGroupTable_n.kp) (N := N) Go.Proofs.Try.func11 (c := impl_IsGroupTable_n.bd) (by kernel_rfl) ((impl_IsGroupTable_n.eq N _ ).trans h)
  · cases h

noncomputable def E16 (N : Nat) : Env := (E15 N).add 11 (impl_IsGroupTable_sh.en N)

theorem E16_ok (N : Nat) : EnvOk (E16 N) ents := Env.add_ok (E15_ok N) (impl_IsGroupTable_sh.en_ok N (E15_ok N))

noncomputable def laws_eqInt64S_ss.kp : Keeps := ⟨[(0, [0, 1, 5], [], [])], [(0, [], [], [])], []⟩

noncomputable def laws_eqInt64S_ss.bd : Code := bodyOf Go.Proofs.Try.f17

noncomputable def laws_eqInt64S_ss.fin {ρ : Type} (N : Nat) (K : AV → Heap → Option ρ) (gv4 : Nat) (gv5 : Nat → Int) (gv6 : Nat) (gv7 : Nat → Int) : XE → St → Option ρ := finK (E16 N) laws_eqInt64S_ss.kp.fins Go.Proofs.Try.f17 [⟨false, .flat gv4 (.ints .i64 gv5)⟩, ⟨false, .flat gv6 (.ints .i64 gv7)⟩] K

noncomputable def laws_eqInt64S_ss.k0 {ρ : Type} (N : Nat) (K : AV → Heap → Option ρ) (gv4 : Nat) (gv5 : Nat → Int) (gv6 : Nat) (gv7 : Nat → Int) : XE → St → Option ρ := (blockK laws_eqInt64S_ss.kp 2 0 (seqK (xcode (E16 N) ents laws_eqInt64S_ss.kp 2 N (cB (cB (cB laws_eqInt64S_ss.bd))) 0) (laws_eqInt64S_ss.fin N K gv4 gv5 gv6 gv7)))

theorem laws_eqInt64S_ss.k0_mix {ρ : Type} (N : Nat) (K : AV → Heap → Option ρ) (gv4 : Nat) (gv5 : Nat → Int) (gv6 : Nat) (gv7 : Nat → Int) : mixK (laws_eqInt64S_ss.fin N K gv4 gv5 gv6 gv7 .ret) (laws_eqInt64S_ss.k0 N K gv4 gv5 gv6 gv7) = (laws_eqInt64S_ss.k0 N K gv4 gv5 gv6 gv7) := by
  funext e s; cases e <;> kernel_rfl

noncomputable def laws_eqInt64S_ss.st0 (av0 : Nat) (av1 : Nat) (bv2 : Nat) (bv3 : Nat) (gv4 : Nat) (gv5 : Nat → Int) (gv6 : Nat) (gv7 : Nat → Int) (i8 : Int) : St := ⟨sl 26 [(0, .slice false 0 0 av0 (.exact av1) 1), (1, .slice false 1 0 bv2 (.exact bv3) 1), (5, .int .i64 (i8))], [⟨false, .flat gv4 (.ints .i64 gv5)⟩, ⟨false, .flat gv6 (.ints .i64 gv7)⟩]⟩

noncomputable def laws_eqInt64S_ss.sx0_0 (gv4 : Nat) (gv5 : Nat → Int) (gv6 : Nat) (gv7 : Nat → Int) : St := ⟨sl 26 [], [⟨false, .flat gv4 (.ints .i64 gv5)⟩, ⟨false, .flat gv6 (.ints .i64 gv7)⟩]⟩

theorem laws_eqInt64S_ss.b0_gen {ρ : Type} (N : Nat) (K : AV → Heap → Option ρ) (L0 : St → Option ρ) (kv : XE → St → Option ρ) (av0 : Nat) (av1 : Nat) (bv2 : Nat) (bv3 : Nat) (gv4 : Nat) (gv5 : Nat → Int) (gv6 : Nat) (gv7 : Nat → Int) (i8 : Int) :
    xcode (E16 N) ents laws_eqInt64S_ss.kp 2 N (cL (cK (cB (cA (cB (cB laws_eqInt64S_ss.bd)))))) 0 (laws_eqInt64S_ss.st0 av0 av1 bv2 bv3 gv4 gv5 gv6 gv7 i8) (roundK laws_eqInt64S_ss.kp 2 0 L0 (mixK (laws_eqInt64S_ss.fin N K gv4 gv5 gv6 gv7 .ret) kv)) = (laws_eqInt64S_ss.b0 N (fun d0 => K (.bool (d0)) [⟨false, .flat gv4 (.ints .i64 gv5)⟩, ⟨false, .flat gv6 (.ints .i64 gv7)⟩]) (fun i8 => L0 (laws_eqInt64S_ss.st0 av0 av1 bv2 bv3 gv4 gv5 gv6 gv7 i8)) (kv (.exit 0) (laws_eqInt64S_ss.sx0_0 gv4 gv5 gv6 gv7)) av0 bv2 gv5 gv7 i8) := by kernel_rfl

theorem laws_eqInt64S_ss.b0_eq {ρ : Type} (N : Nat) (K : AV → Heap → Option ρ) (L0 : St → Option ρ) (av0 : Nat) (av1 : Nat) (bv2 : Nat) (bv3 : Nat) (gv4 : Nat) (gv5 : Nat → Int) (gv6 : Nat) (gv7 : Nat → Int) (i8 : Int) :
    xcode (E16 N) ents laws_eqInt64S_ss.kp 2 N (cL (cK (cB (cA (cB (cB laws_eqInt64S_ss.bd)))))) 0 (laws_eqInt64S_ss.st0 av0 av1 bv2 bv3 gv4 gv5 gv6 gv7 i8) (roundK laws_eqInt64S_ss.kp 2 0 L0 (laws_eqInt64S_ss.k0 N K gv4 gv5 gv6 gv7)) = (laws_eqInt64S_ss.b0 N (fun d0 => K (.bool (d0)) [⟨false, .flat gv4 (.ints .i64 gv5)⟩, ⟨false, .flat gv6 (.ints .i64 gv7)⟩]) (fun i8 => L0 (laws_eqInt64S_ss.st0 av0 av1 bv2 bv3 gv4 gv5 gv6 gv7 i8)) ((laws_eqInt64S_ss.k0 N K gv4 gv5 gv6 gv7) (.exit 0) (laws_eqInt64S_ss.sx0_0 gv4 gv5 gv6 gv7)) av0 bv2 gv5 gv7 i8) := by
  have h := laws_eqInt64S_ss.b0_gen N K L0 (laws_eqInt64S_ss.k0 N K gv4 gv5 gv6 gv7) av0 av1 bv2 bv3 gv4 gv5 gv6 gv7 i8
  rw [laws_eqInt64S_ss.k0_mix] at h
  exact h

theorem laws_eqInt64S_ss.a0_0_eq {ρ : Type} (N : Nat) (K : AV → Heap → Option ρ) (gv4 : Nat) (gv5 : Nat → Int) (gv6 : Nat) (gv7 : Nat → Int) :
    (laws_eqInt64S_ss.k0 N K gv4 gv5 gv6 gv7) (.exit 0) (laws_eqInt64S_ss.sx0_0 gv4 gv5 gv6 gv7) = (laws_eqInt64S_ss.a0_0 N (fun d0 => K (.bool (d0)) [⟨false, .flat gv4 (.ints .i64 gv5)⟩, ⟨false, .flat gv6 (.ints .i64 gv7)⟩])) := by kernel_rfl

theorem laws_eqInt64S_ss.l0_eq {ρ : Type} (N : Nat) (K : AV → Heap → Option ρ) (av0 : Nat) (av1 : Nat) (bv2 : Nat) (bv3 : Nat) (gv4 : Nat) (gv5 : Nat → Int) (gv6 : Nat) (gv7 : Nat → Int) :
    ∀ (m : Nat) (i8 : Int), xloop (xcode (E16 N) ents laws_eqInt64S_ss.kp 2 N (cL (cK (cB (cA (cB (cB laws_eqInt64S_ss.bd)))))) 0) laws_eqInt64S_ss.kp 2 0 m (laws_eqInt64S_ss.st0 av0 av1 bv2 bv3 gv4 gv5 gv6 gv7 i8) (laws_eqInt64S_ss.k0 N K gv4 gv5 gv6 gv7) = (laws_eqInt64S_ss.l0 N (fun d0 => K (.bool (d0)) [⟨false, .flat gv4 (.ints .i64 gv5)⟩, ⟨false, .flat gv6 (.ints .i64 gv7)⟩]) av0 bv2 gv5 gv7 ((laws_eqInt64S_ss.k0 N K gv4 gv5 gv6 gv7) (.exit 0) (laws_eqInt64S_ss.sx0_0 gv4 gv5 gv6 gv7)) m i8) := by
  intro m
  induction m with
  | zero => intros; rfl
  | succ m ih =>
    intro i8
    refine (laws_eqInt64S_ss.b0_eq N K (fun s => xloop (xcode (E16 N) ents laws_eqInt64S_ss.kp 2 N (cL (cK (cB (cA (cB (cB laws_eqInt64S_ss.bd)))))) 0) laws_eqInt64S_ss.kp 2 0 m s (laws_eqInt64S_ss.k0 N K gv4 gv5 gv6 gv7)) av0 av1 bv2 bv3 gv4 gv5 gv6 gv7 i8).trans ?_
    simp only [ih]
    kernel_rfl

theorem laws_eqInt64S_ss.s_eq {ρ : Type} (N : Nat) (K : AV → Heap → Option ρ) (av0 : Nat) (av1 : Nat) (bv2 : Nat) (bv3 : Nat) (gv4 : Nat) (gv5 : Nat → Int) (gv6 : Nat) (gv7 : Nat → Int) :
    xbody (E16 N) ents laws_eqInt64S_ss.kp N Go.Proofs.Try.f17 laws_eqInt64S_ss.bd [.slice false 0 0 av0 (.exact av1) 1, .slice false 1 0 bv2 (.exact bv3) 1] [⟨false, .flat gv4 (.ints .i64 gv5)⟩, ⟨false, .flat gv6 (.ints .i64 gv7)⟩] K = (laws_eqInt64S_ss.s N (fun d0 => K (.bool (d0)) [⟨false, .flat gv4 (.ints .i64 gv5)⟩, ⟨false, .flat gv6 (.ints .i64 gv7)⟩]) (fun i8 => xloop (xcode (E16 N) ents laws_eqInt64S_ss.kp 2 N (cL (cK (cB (cA (cB (cB laws_eqInt64S_ss.bd)))))) 0) laws_eqInt64S_ss.kp 2 0 N (laws_eqInt64S_ss.st0 av0 av1 bv2 bv3 gv4 gv5 gv6 gv7 i8) (laws_eqInt64S_ss.k0 N K gv4 gv5 gv6 gv7)) av0 bv2) := by kernel_rfl

theorem laws_eqInt64S_ss.eq {ρ : Type} (N : Nat) (K : AV → Heap → Option ρ) (av0 : Nat) (av1 : Nat) (bv2 : Nat) (bv3 : Nat) (gv4 : Nat) (gv5 : Nat → Int) (gv6 : Nat) (gv7 : Nat → Int) :
    xbody (E16 N) ents laws_eqInt64S_ss.kp N Go.Proofs.Try.f17 laws_eqInt64S_ss.bd [.slice false 0 0 av0 (.exact av1) 1, .slice false 1 0 bv2 (.exact bv3) 1] [⟨false, .flat gv4 (.ints .i64 gv5)⟩, ⟨false, .flat gv6 (.ints .i64 gv7)⟩] K = (laws_eqInt64S_ss N (fun d0 => K (.bool (d0)) [⟨false, .flat gv4 (.ints .i64 gv5)⟩, ⟨false, .flat gv6 (.ints .i64 gv7)⟩]) av0 av1 bv2 bv3 gv4 gv5 gv6 gv7) := by
  refine (laws_eqInt64S_ss.s_eq N K av0 av1 bv2 bv3 gv4 gv5 gv6 gv7).trans ?_
  simp only [laws_eqInt64S_ss.l0_eq, laws_eqInt64S_ss.a0_0_eq]
  kernel_rfl

noncomputable def laws_eqInt64S_ss.en (N : Nat) (ρ : Type) : List AV → Heap → (AV → Heap → Option ρ) → Option ρ
  | [.slice false 0 0 av0 (.exact av1) 1, .slice false 1 0 bv2 (.exact bv3) 1], [⟨false, .flat gv4 (.ints .i64 gv5)⟩, ⟨false, .flat gv6 (.ints .i64 gv7)⟩], K => (laws_eqInt64S_ss N (fun d0 => K (.bool (d0)) [⟨false, .flat gv4 (.ints .i64 gv5)⟩, ⟨false, .flat gv6 (.ints .i64 gv7)⟩]) av0 av1 bv2 bv3 gv4 gv5 gv6 gv7)
  | _, _, _ => none

theorem laws_eqInt64S_ss.en_ok (N : Nat) (hE : EnvOk (E16 N) ents) (ρ : Type) (args : List AV) (sh : Heap) (K : AV → Heap → Option ρ) (r : ρ) (h : laws_eqInt64S_ss.en N ρ args sh K = some r) : ∃ v sh', K v sh' = some r ∧ FnOk (E16 N).P 17 args sh v sh' := by
  unfold laws_eqInt64S_ss.en at h
  split at h
  · exact fn_ok hE (kp := laws_eqInt64S_ss.kp) (N := N) Go.Proofs.Try.func17 (c := laws_eqInt64S_ss.bd) (by kernel_rfl) ((laws_eqInt64S_ss.eq N _ _ _ _ _ _ _ _ _).trans h)
  · cases h

noncomputable def E17 (N : Nat) : Env := (E16 N).add 17 (laws_eqInt64S_ss.en N)

theorem E17_ok (N : Nat) : EnvOk (E17 N) ents := Env.add_ok (E16_ok N) (laws_eqInt64S_ss.en_ok N (E16_ok N))

noncomputable def laws_intactInt64S_ss.kp : Keeps := ⟨[], [], []⟩

noncomputable def laws_intactInt64S_ss.bd : Code := bodyOf Go.Proofs.Try.f45

noncomputable def laws_intactInt64S_ss.fin {ρ : Type} (N : Nat) (K : AV → Heap → Option ρ) (gv4 : Nat) (gv5 : Nat → Int) (gv6 : Nat) (gv7 : Nat → Int) : XE → St → Option ρ := finK (E17 N) laws_intactInt64S_ss.kp.fins Go.Proofs.Try.f45 [⟨false, .flat gv4 (.ints .i64 gv5)⟩, ⟨false, .flat gv6 (.ints .i64 gv7)⟩] K

theorem laws_intactInt64S_ss.eq {ρ : Type} (N : Nat) (K : AV → Heap → Option ρ) (x0 : Nat) (x1 : Nat) (y2 : Nat) (y3 : Nat) (gv4 : Nat) (gv5 : Nat → Int) (gv6 : Nat) (gv7 : Nat → Int) :
    xbody (E17 N) ents laws_intactInt64S_ss.kp N Go.Proofs.Try.f45 laws_intactInt64S_ss.bd [.slice false 0 0 x0 (.exact x1) 1, .slice false 1 0 y2 (.exact y3) 1] [⟨false, .flat gv4 (.ints .i64 gv5)⟩, ⟨false, .flat gv6 (.ints .i64 gv7)⟩] K = (laws_intactInt64S_ss N (fun d0 => K (.bool (d0)) [⟨false, .flat gv4 (.ints .i64 gv5)⟩, ⟨false, .flat gv6 (.ints .i64 gv7)⟩]) x0 x1 y2 y3 gv4 gv5 gv6 gv7) := by kernel_rfl

noncomputable def laws_intactInt64S_ss.en (N : Nat) (ρ : Type) : List AV → Heap → (AV → Heap → Option ρ) → Option ρ
  | [.slice false 0 0 x0 (.exact x1) 1, .slice false 1 0 y2 (.exact y3) 1], [⟨false, .flat gv4 (.ints .i64 gv5)⟩, ⟨false, .flat gv6 (.ints .i64 gv7)⟩], K => (laws_intactInt64S_ss N (fun d0 => K (.bool (d0)) [⟨false, .flat gv4 (.ints .i64 gv5)⟩, ⟨false, .flat gv6 (.ints .i64 gv7)⟩]) x0 x1 y2 y3 gv4 gv5 gv6 gv7)
  | _, _, _ => none

theorem laws_intactInt64S_ss.en_ok (N : Nat) (hE : EnvOk (E17 N) ents) (ρ : Type) (args : List AV) (sh : Heap) (K : AV → Heap → Option ρ) (r : ρ) (h : laws_intactInt64S_ss.en N ρ args sh K = some r) : ∃ v sh', K v sh' = some r ∧ FnOk (E17 N).P 45 args sh v sh' := by
  unfold laws_intactInt64S_ss.en at h
  split at h
  · exact fn_ok hE (kp := laws_intactInt64S_ss.kp) (N := N) Go.Proofs.Try.func45 (c := laws_intactInt64S_ss.bd) (by kernel_rfl) ((laws_intactInt64S_ss.eq N _ _ _ _ _ _ _ _ _).trans h)
  · cases h

noncomputable def E18 (N : Nat) : Env := (E17 N).add 45 (laws_intactInt64S_ss.en N)

theorem E18_ok (N : Nat) : EnvOk (E18 N) ents := Env.add_ok (E17_ok N) (laws_intactInt64S_ss.en_ok N (E17_ok N))

noncomputable def laws_eqInt64SS_shsh.kp : Keeps := ⟨[(0, [0, 1, 5], [], [])], [(0, [], [], [])], []⟩

noncomputable def laws_eqInt64SS_shsh.bd : Code := bodyOf Go.Proofs.Try.f23

noncomputable def laws_eqInt64SS_shsh.fin {ρ : Type} (N : Nat) (K : AV → Heap → Option ρ) (gv4 : Nat) (gv5 : Nat) (gv6 : Nat → Nat) (gv7 : Nat → Nat) (gv8 : Nat → Nat) (gv9 : Nat) (gv10 : Nat) (gv11 : Nat → Nat) (gv12 : Nat → Nat) (gv13 : Nat → Nat) (gv14 : Nat → Int) (gv15 : Nat → Int) : XE → St → Option ρ := finK (E18 N) laws_eqInt64SS_shsh.kp.fins Go.Proofs.Try.f23 [⟨false, .hdr 2 gv4 gv5 gv6 gv7 (some gv8)⟩, ⟨false, .hdr 3 gv9 gv10 gv11 gv12 (some gv13)⟩, ⟨false, .flat 0 (.ints .i64 gv14)⟩, ⟨false, .flat 0 (.ints .i64 gv15)⟩] K

noncomputable def laws_eqInt64SS_shsh.k0 {ρ : Type} (N : Nat) (K : AV → Heap → Option ρ) (gv4 : Nat) (gv5 : Nat) (gv6 : Nat → Nat) (gv7 : Nat → Nat) (gv8 : Nat → Nat) (gv9 : Nat) (gv10 : Nat) (gv11 : Nat → Nat) (gv12 : Nat → Nat) (gv13 : Nat → Nat) (gv14 : Nat → Int) (gv15 : Nat → Int) : XE → St → Option ρ := (blockK laws_eqInt64SS_shsh.kp 4 0 (seqK (xcode (E18 N) ents laws_eqInt64SS_shsh.kp 4 N (cB (cB (cB laws_eqInt64SS_shsh.bd))) 0) (laws_eqInt64SS_shsh.fin N K gv4 gv5 gv6 gv7 gv8 gv9 gv10 gv11 gv12 gv13 gv14 gv15)))

theorem laws_eqInt64SS_shsh.k0_mix {ρ : Type} (N : Nat) (K : AV → Heap → Option ρ) (gv4 : Nat) (gv5 : Nat) (gv6 : Nat → Nat) (gv7 : Nat → Nat) (gv8 : Nat → Nat) (gv9 : Nat) (gv10 : Nat) (gv11 : Nat → Nat) (gv12 : Nat → Nat) (gv13 : Nat → Nat) (gv14 : Nat → Int) (gv15 : Nat → Int) : mixK (laws_eqInt64SS_shsh.fin N K gv4 gv5 gv6 gv7 gv8 gv9 gv10 gv11 gv12 gv13 gv14 gv15 .ret) (laws_eqInt64SS_shsh.k0 N K gv4 gv5 gv6 gv7 gv8 gv9 gv10 gv11 gv12 gv13 gv14 gv15) = (laws_eqInt64SS_shsh.k0 N K gv4 gv5 gv6 gv7 gv8 gv9 gv10 gv11 gv12 gv13 gv14 gv15) := by
  funext e s; cases e <;> kernel_rfl

noncomputable def laws_eqInt64SS_shsh.st0 (av0 : Nat) (av1 : Nat) (bv2 : Nat) (bv3 : Nat) (gv4 : Nat) (gv5 : Nat) (gv6 : Nat → Nat) (gv7 : Nat → Nat) (gv8 : Nat → Nat) (gv9 : Nat) (gv10 : Nat) (gv11 : Nat → Nat) (gv12 : Nat → Nat) (gv13 : Nat → Nat) (gv14 : Nat → Int) (gv15 : Nat → Int) (i16 : Int) : St := ⟨sl 27 [(0, .slice true 0 0 av0 (.exact av1) 1), (1, .slice true 1 0 bv2 (.exact bv3) 1), (5, .int .i64 (i16))], [⟨false, .hdr 2 gv4 gv5 gv6 gv7 (some gv8)⟩, ⟨false, .hdr 3 gv9 gv10 gv11 gv12 (some gv13)⟩, ⟨false, .flat 0 (.ints .i64 gv14)⟩, ⟨false, .flat 0 (.ints .i64 gv15)⟩]⟩

noncomputable def laws_eqInt64SS_shsh.sx0_0 (gv4 : Nat) (gv5 : Nat) (gv6 : Nat → Nat) (gv7 : Nat → Nat) (gv8 : Nat → Nat) (gv9 : Nat) (gv10 : Nat) (gv11 : Nat → Nat) (gv12 : Nat → Nat) (gv13 : Nat → Nat) (gv14 : Nat → Int) (gv15 : Nat → Int) : St := ⟨sl 27 [], [⟨false, .hdr 2 gv4 gv5 gv6 gv7 (some gv8)⟩, ⟨false, .hdr 3 gv9 gv10 gv11 gv12 (some gv13)⟩, ⟨false, .flat 0 (.ints .i64 gv14)⟩, ⟨false, .flat 0 (.ints .i64 gv15)⟩]⟩

theorem laws_eqInt64SS_shsh.b0_gen {ρ : Type} (N : Nat) (K : AV → Heap → Option ρ) (L0 : St → Option ρ) (kv : XE → St → Option ρ) (av0 : Nat) (av1 : Nat) (bv2 : Nat) (bv3 : Nat) (gv4 : Nat) (gv5 : Nat) (gv6 : Nat → Nat) (gv7 : Nat → Nat) (gv8 : Nat → Nat) (gv9 : Nat) (gv10 : Nat) (gv11 : Nat → Nat) (gv12 : Nat → Nat) (gv13 : Nat → Nat) (gv14 : Nat → Int) (gv15 : Nat → Int) (i16 : Int) :
    xcode (E18 N) ents laws_eqInt64SS_shsh.kp 4 N (cL (cK (cB (cA (cB (cB laws_eqInt64SS_shsh.bd)))))) 0 (laws_eqInt64SS_shsh.st0 av0 av1 bv2 bv3 gv4 gv5 gv6 gv7 gv8 gv9 gv10 gv11 gv12 gv13 gv14 gv15 i16) (roundK laws_eqInt64SS_shsh.kp 4 0 L0 (mixK (laws_eqInt64SS_shsh.fin N K gv4 gv5 gv6 gv7 gv8 gv9 gv10 gv11 gv12 gv13 gv14 gv15 .ret) kv)) = (laws_eqInt64SS_shsh.b0 N (fun d0 => K (.bool (d0)) [⟨false, .hdr 2 gv4 gv5 gv6 gv7 (some gv8)⟩, ⟨false, .hdr 3 gv9 gv10 gv11 gv12 (some gv13)⟩, ⟨false, .flat 0 (.ints .i64 gv14)⟩, ⟨false, .flat 0 (.ints .i64 gv15)⟩]) (fun i16 => L0 (laws_eqInt64SS_shsh.st0 av0 av1 bv2 bv3 gv4 gv5 gv6 gv7 gv8 gv9 gv10 gv11 gv12 gv13 gv14 gv15 i16)) (kv (.exit 0) (laws_eqInt64SS_shsh.sx0_0 gv4 gv5 gv6 gv7 gv8 gv9 gv10 gv11 gv12 gv13 gv14 gv15)) av0 bv2 gv6 gv7 gv8 gv11 gv12 gv13 gv14 gv15 i16) := by kernel_rfl

theorem laws_eqInt64SS_shsh.b0_eq {ρ : Type} (N : Nat) (K : AV → Heap → Option ρ) (L0 : St → Option ρ) (av0 : Nat) (av1 : Nat) (bv2 : Nat) (bv3 : Nat) (gv4 : Nat) (gv5 : Nat) (gv6 : Nat → Nat) (gv7 : Nat → Nat) (gv8 : Nat → Nat) (gv9 : Nat) (gv10 : Nat) (gv11 : Nat → Nat) (gv12 : Nat → Nat) (gv13 : Nat → Nat) (gv14 : Nat → Int) (gv15 : Nat → Int) (i16 : Int) :
    xcode (E18 N) ents laws_eqInt64SS_shsh.kp 4 N (cL (cK (cB (cA (cB (cB laws_eqInt64SS_shsh.bd)))))) 0 (laws_eqInt64SS_shsh.st0 av0 av1 bv2 bv3 gv4 gv5 gv6 gv7 gv8 gv9 gv10 gv11 gv12 gv13 gv14 gv15 i16) (roundK laws_eqInt64SS_shsh.kp 4 0 L0 (laws_eqInt64SS_shsh.k0 N K gv4 gv5 gv6 gv7 gv8 gv9 gv10 gv11 gv12 gv13 gv14 gv15)) = (laws_eqInt64SS_shsh.b0 N (fun d0 => K (.bool (d0)) [⟨false, .hdr 2 gv4 gv5 gv6 gv7 (some gv8)⟩, ⟨false, .hdr 3 gv9 gv10 gv11 gv12 (some gv13)⟩, ⟨false, .flat 0 (.ints .i64 gv14)⟩, ⟨false, .flat 0 (.ints .i64 gv15)⟩]) (fun i16 => L0 (laws_eqInt64SS_shsh.st0 av0 av1 bv2 bv3 gv4 gv5 gv6 gv7 gv8 gv9 gv10 gv11 gv12 gv13 gv14 gv15 i16)) ((laws_eqInt64SS_shsh.k0 N K gv4 gv5 gv6 gv7 gv8 gv9 gv10 gv11 gv12 gv13 gv14 gv15) (.exit 0) (laws_eqInt64SS_shsh.sx0_0 gv4 gv5 gv6 gv7 gv8 gv9 gv10 gv11 gv12 gv13 gv14 gv15)) av0 bv2 gv6 gv7 gv8 gv11 gv12 gv13 gv14 gv15 i16) := by
  have h := laws_eqInt64SS_shsh.b0_gen N K L0 (laws_eqInt64SS_shsh.k0 N K gv4 gv5 gv6 gv7 gv8 gv9 gv10 gv11 gv12 gv13 gv14 gv15) av0 av1 bv2 bv3 gv4 gv5 gv6 gv7 gv8 gv9 gv10 gv11 gv12 gv13 gv14 gv15 i16
  rw [laws_eqInt64SS_shsh.k0_mix] at h
  exact h

theorem laws_eqInt64SS_shsh.a0_0_eq {ρ : Type} (N : Nat) (K : AV → Heap → Option ρ) (gv4 : Nat) (gv5 : Nat) (gv6 : Nat → Nat) (gv7 : Nat → Nat) (gv8 : Nat → Nat) (gv9 : Nat) (gv10 : Nat) (gv11 : Nat → Nat) (gv12 : Nat → Nat) (gv13 : Nat → Nat) (gv14 : Nat → Int) (gv15 : Nat → Int) :
    (laws_eqInt64SS_shsh.k0 N K gv4 gv5 gv6 gv7 gv8 gv9 gv10 gv11 gv12 gv13 gv14 gv15) (.exit 0) (laws_eqInt64SS_shsh.sx0_0 gv4 gv5 gv6 gv7 gv8 gv9 gv10 gv11 gv12 gv13 gv14 gv15) = (laws_eqInt64SS_shsh.a0_0 N (fun d0 => K (.bool (d0)) [⟨false, .hdr 2 gv4 gv5 gv6 gv7 (some gv8)⟩, ⟨false, .hdr 3 gv9 gv10 gv11 gv12 (some gv13)⟩, ⟨false, .flat 0 (.ints .i64 gv14)⟩, ⟨false, .flat 0 (.ints .i64 gv15)⟩])) := by kernel_rfl

theorem laws_eqInt64SS_shsh.l0_eq {ρ : Type} (N : Nat) (K : AV → Heap → Option ρ) (av0 : Nat) (av1 : Nat) (bv2 : Nat) (bv3 : Nat) (gv4 : Nat) (gv5 : Nat) (gv6 : Nat → Nat) (gv7 : Nat → Nat) (gv8 : Nat → Nat) (gv9 : Nat) (gv10 : Nat) (gv11 : Nat → Nat) (gv12 : Nat → Nat) (gv13 : Nat → Nat) (gv14 : Nat → Int) (gv15 : Nat → Int) :
    ∀ (m : Nat) (i16 : Int), xloop (xcode (E18 N) ents laws_eqInt64SS_shsh.kp 4 N (cL (cK (cB (cA (cB (cB laws_eqInt64SS_shsh.bd)))))) 0) laws_eqInt64SS_shsh.kp 4 0 m (laws_eqInt64SS_shsh.st0 av0 av1 bv2 bv3 gv4 gv5 gv6 gv7 gv8 gv9 gv10 gv11 gv12 gv13 gv14 gv15 i16) (laws_eqInt64SS_shsh.k0 N K gv4 gv5 gv6 gv7 gv8 gv9 gv10 gv11 gv12 gv13 gv14 gv15) = (laws_eqInt64SS_shsh.l0 N (fun d0 => K (.bool (d0)) [⟨false, .hdr 2 gv4 gv5 gv6 gv7 (some gv8)⟩, ⟨false, .hdr 3 gv9 gv10 gv11 gv12 (some gv13)⟩, ⟨false, .flat 0 (.ints .i64 gv14)⟩, ⟨false, .flat 0 (.ints .i64 gv15)⟩]) av0 bv2 gv6 gv7 gv8 gv11 gv12 gv13 gv14 gv15 ((laws_eqInt64SS_shsh.k0 N K gv4 gv5 gv6 gv7 gv8 gv9 gv10 gv11 gv12 gv13 gv14 gv15) (.exit 0) (laws_eqInt64SS_shsh.sx0_0 gv4 gv5 gv6 gv7 gv8 gv9 gv10 gv11 gv12 gv13 gv14 gv15)) m i16) := by
  intro m
  induction m with
  | zero => intros; rfl
  | succ m ih =>
    intro i16
    refine (laws_eqInt64SS_shsh.b0_eq N K (fun s => xloop (xcode (E18 N) ents laws_eqInt64SS_shsh.kp 4 N (cL (cK (cB (cA (cB (cB laws_eqInt64SS_shsh.bd)))))) 0) laws_eqInt64SS_shsh.kp 4 0 m s (laws_eqInt64SS_shsh.k0 N K gv4 gv5 gv6 gv7 gv8 gv9 gv10 gv11 gv12 gv13 gv14 gv15)) av0 av1 bv2 bv3 gv4 gv5 gv6 gv7 gv8 gv9 gv10 gv11 gv12 gv13 gv14 gv15 i16).trans ?_
    simp only [ih]
    kernel_rfl

theorem laws_eqInt64SS_shsh.s_eq {ρ : Type} (N : Nat) (K : AV → Heap → Option ρ) (av0 : Nat) (av1 : Nat) (bv2 : Nat) (bv3 : Nat) (gv4 : Nat) (gv5 : Nat) (gv6 : Nat → Nat) (gv7 : Nat → Nat) (gv8 : Nat → Nat) (gv9 : Nat) (gv10 : Nat) (gv11 : Nat → Nat) (gv12 : Nat → Nat) (gv13 : Nat → Nat) (gv14 : Nat → Int) (gv15 : Nat → Int) :
    xbody (E18 N) ents laws_eqInt64SS_shsh.kp N Go.Proofs.Try.f23 laws_eqInt64SS_shsh.bd [.slice true 0 0 av0 (.exact av1) 1, .slice true 1 0 bv2 (.exact bv3) 1] [⟨false, .hdr 2 gv4 gv5 gv6 gv7 (some gv8)⟩, ⟨false, .hdr 3 gv9 gv10 gv11 gv12 (some gv13)⟩, ⟨false, .flat 0 (.ints .i64 gv14)⟩, ⟨false, .flat 0 (.ints .i64 gv15)⟩] K = (laws_eqInt64SS_shsh.s N (fun d0 => K (.bool (d0)) [⟨false, .hdr 2 gv4 gv5 gv6 gv7 (some gv8)⟩, ⟨false, .hdr 3 gv9 gv10 gv11 gv12 (some gv13)⟩, ⟨false, .flat 0 (.ints .i64 gv14)⟩, ⟨false, .flat 0 (.ints .i64 gv15)⟩]) (fun i16 => xloop (xcode (E18 N) ents laws_eqInt64SS_shsh.kp 4 N (cL (cK (cB (cA (cB (cB laws_eqInt64SS_shsh.bd)))))) 0) laws_eqInt64SS_shsh.kp 4 0 N (laws_eqInt64SS_shsh.st0 av0 av1 bv2 bv3 gv4 gv5 gv6 gv7 gv8 gv9 gv10 gv11 gv12 gv13 gv14 gv15 i16) (laws_eqInt64SS_shsh.k0 N K gv4 gv5 gv6 gv7 gv8 gv9 gv10 gv11 gv12 gv13 gv14 gv15)) av0 bv2) := by kernel_rfl

theorem laws_eqInt64SS_shsh.eq {ρ : Type} (N : Nat) (K : AV → Heap → Option ρ) (av0 : Nat) (av1 : Nat) (bv2 : Nat) (bv3 : Nat) (gv4 : Nat) (gv5 : Nat) (gv6 : Nat → Nat) (gv7 : Nat → Nat) (gv8 : Nat → Nat) (gv9 : Nat) (gv10 : Nat) (gv11 : Nat → Nat) (gv12 : Nat → Nat) (gv13 : Nat → Nat) (gv14 : Nat → Int) (gv15 : Nat → Int) :
    xbody (E18 N) ents laws_eqInt64SS_shsh.kp N Go.Proofs.Try.f23 laws_eqInt64SS_shsh.bd [.slice true 0 0 av0 (.exact av1) 1, .slice true 1 0 bv2 (.exact bv3) 1] [⟨false, .hdr 2 gv4 gv5 gv6 gv7 (some gv8)⟩, ⟨false, .hdr 3 gv9 gv10 gv11 gv12 (some gv13)⟩, ⟨false, .flat 0 (.ints .i64 gv14)⟩, ⟨false, .flat 0 (.ints .i64 gv15)⟩] K = (laws_eqInt64SS_shsh N (fun d0 => K (.bool (d0)) [⟨false, .hdr 2 gv4 gv5 gv6 gv7 (some gv8)⟩, ⟨false, .hdr 3 gv9 gv10 gv11 gv12 (some gv13)⟩, ⟨false, .flat 0 (.ints .i64 gv14)⟩, ⟨false, .flat 0 (.ints .i64 gv15)⟩]) av0 av1 bv2 bv3 gv4 gv5 gv6 gv7 gv8 gv9 gv10 gv11 gv12 gv13 gv14 gv15) := by
  refine (laws_eqInt64SS_shsh.s_eq N K av0 av1 bv2 bv3 gv4 gv5 gv6 gv7 gv8 gv9 gv10 gv11 gv12 gv13 gv14 gv15).trans ?_
  simp only [laws_eqInt64SS_shsh.l0_eq, laws_eqInt64SS_shsh.a0_0_eq]
  kernel_rfl

noncomputable def laws_eqInt64SS_shsh.en (N : Nat) (ρ : Type) : List AV → Heap → (AV → Heap → Option ρ) → Option ρ
  | [.slice true 0 0 av0 (.exact av1) 1, .slice true 1 0 bv2 (.exact bv3) 1], [⟨false, .hdr 2 gv4 gv5 gv6 gv7 (some gv8)⟩, ⟨false, .hdr 3 gv9 gv10 gv11 gv12 (some gv13)⟩, ⟨false, .flat 0 (.ints .i64 gv14)⟩, ⟨false, .flat 0 (.ints .i64 gv15)⟩], K => (laws_eqInt64SS_shsh N (fun d0 => K (.bool (d0)) [⟨false, .hdr 2 gv4 gv5 gv6 gv7 (some gv8)⟩, ⟨false, .hdr 3 gv9 gv10 gv11 gv12 (some gv13)⟩, ⟨false, .flat 0 (.ints .i64 gv14)⟩, ⟨false, .flat 0 (.ints .i64 gv15)⟩]) av0 av1 bv2 bv3 gv4 gv5 gv6 gv7 gv8 gv9 gv10 gv11 gv12 gv13 gv14 gv15)
  | _, _, _ => none

theorem laws_eqInt64SS_shsh.en_ok (N : Nat) (hE : EnvOk (E18 N) ents) (ρ : Type) (args : List AV) (sh : Heap) (K : AV → Heap → Option ρ) (r : ρ) (h : laws_eqInt64SS_shsh.en N ρ args sh K = some r) : ∃ v sh', K v sh' = some r ∧ FnOk (E18 N).P 23 args sh v sh' := by
  unfold laws_eqInt64SS_shsh.en at h
  split at h
  · exact fn_ok hE (kp := laws_eqInt64SS_shsh.kp) (N := N) Go.Proofs.Try.func23 (c := laws_eqInt64SS_shsh.bd) (by kernel_rfl) ((laws_eqInt64SS_shsh.eq N _ _ _ _ _ _ _ _ _ _ _ _ _ _ _ _ _).trans h)
  · cases h

noncomputable def E19 (N : Nat) : Env := (E18 N).add 23 (laws_eqInt64SS_shsh.en N)

theorem E19_ok (N : Nat) : EnvOk (E19 N) ents := Env.add_ok (E18_ok N) (laws_eqInt64SS_shsh.en_ok N (E18_ok N))

noncomputable def laws_intactInt64SS_shsh.kp : Keeps := ⟨[(0, [0, 1, 5, 6], [], [])], [(0, [0, 1, 5], [], [])], []⟩

noncomputable def laws_intactInt64SS_shsh.bd : Code := bodyOf Go.Proofs.Try.f12

noncomputable def laws_intactInt64SS_shsh.fin {ρ : Type} (N : Nat) (K : AV → Heap → Option ρ) (gv4 : Nat) (gv5 : Nat) (gv6 : Nat → Nat) (gv7 : Nat → Nat) (gv8 : Nat → Nat) (gv9 : Nat) (gv10 : Nat) (gv11 : Nat → Nat) (gv12 : Nat → Nat) (gv13 : Nat → Nat) (gv14 : Nat → Int) (gv15 : Nat → Int) : XE → St → Option ρ := finK (E19 N) laws_intactInt64SS_shsh.kp.fins Go.Proofs.Try.f12 [⟨false, .hdr 2 gv4 gv5 gv6 gv7 (some gv8)⟩, ⟨false, .hdr 3 gv9 gv10 gv11 gv12 (some gv13)⟩, ⟨false, .flat 0 (.ints .i64 gv14)⟩, ⟨false, .flat 0 (.ints .i64 gv15)⟩] K

noncomputable def laws_intactInt64SS_shsh.k0 {ρ : Type} (N : Nat) (K : AV → Heap → Option ρ) (gv4 : Nat) (gv5 : Nat) (gv6 : Nat → Nat) (gv7 : Nat → Nat) (gv8 : Nat → Nat) (gv9 : Nat) (gv10 : Nat) (gv11 : Nat → Nat) (gv12 : Nat → Nat) (gv13 : Nat → Nat) (gv14 : Nat → Int) (gv15 : Nat → Int) : XE → St → Option ρ := (blockK laws_intactInt64SS_shsh.kp 4 0 (seqK (xcode (E19 N) ents laws_intactInt64SS_shsh.kp 4 N (cB (cB (cB (cB laws_intactInt64SS_shsh.bd)))) 0) (laws_intactInt64SS_shsh.fin N K gv4 gv5 gv6 gv7 gv8 gv9 gv10 gv11 gv12 gv13 gv14 gv15)))

theorem laws_intactInt64SS_shsh.k0_mix {ρ : Type} (N : Nat) (K : AV → Heap → Option ρ) (gv4 : Nat) (gv5 : Nat) (gv6 : Nat → Nat) (gv7 : Nat → Nat) (gv8 : Nat → Nat) (gv9 : Nat) (gv10 : Nat) (gv11 : Nat → Nat) (gv12 : Nat → Nat) (gv13 : Nat → Nat) (gv14 : Nat → Int) (gv15 : Nat → Int) : mixK (laws_intactInt64SS_shsh.fin N K gv4 gv5 gv6 gv7 gv8 gv9 gv10 gv11 gv12 gv13 gv14 gv15 .ret) (laws_intactInt64SS_shsh.k0 N K gv4 gv5 gv6 gv7 gv8 gv9 gv10 gv11 gv12 gv13 gv14 gv15) = (laws_intactInt64SS_shsh.k0 N K gv4 gv5 gv6 gv7 gv8 gv9 gv10 gv11 gv12 gv13 gv14 gv15) := by
  funext e s; cases e <;> kernel_rfl

noncomputable def laws_intactInt64SS_shsh.st0 (x0 : Nat) (x1 : Nat) (y2 : Nat) (y3 : Nat) (gv4 : Nat) (gv5 : Nat) (gv6 : Nat → Nat) (gv7 : Nat → Nat) (gv8 : Nat → Nat) (gv9 : Nat) (gv10 : Nat) (gv11 : Nat → Nat) (gv12 : Nat → Nat) (gv13 : Nat → Nat) (gv14 : Nat → Int) (gv15 : Nat → Int) (rv16 : Int) (i17 : Int) : St := ⟨sl 45 [(0, .slice true 0 0 x0 (.exact x1) 1), (1, .slice true 1 0 y2 (.exact y3) 1), (5, .int .i64 ((IntKind.i64.wrap ((y2 : Int) + rv16)))), (6, .int .i64 (i17))], [⟨false, .hdr 2 gv4 gv5 gv6 gv7 (some gv8)⟩, ⟨false, .hdr 3 gv9 gv10 gv11 gv12 (some gv13)⟩, ⟨false, .flat 0 (.ints .i64 gv14)⟩, ⟨false, .flat 0 (.ints .i64 gv15)⟩]⟩

noncomputable def laws_intactInt64SS_shsh.sx0_0 (x0 : Nat) (x1 : Nat) (y2 : Nat) (y3 : Nat) (gv4 : Nat) (gv5 : Nat) (gv6 : Nat → Nat) (gv7 : Nat → Nat) (gv8 : Nat → Nat) (gv9 : Nat) (gv10 : Nat) (gv11 : Nat → Nat) (gv12 : Nat → Nat) (gv13 : Nat → Nat) (gv14 : Nat → Int) (gv15 : Nat → Int) (rv16 : Int) : St := ⟨sl 45 [(0, .slice true 0 0 x0 (.exact x1) 1), (1, .slice true 1 0 y2 (.exact y3) 1), (5, .int .i64 ((IntKind.i64.wrap ((y2 : Int) + rv16))))], [⟨false, .hdr 2 gv4 gv5 gv6 gv7 (some gv8)⟩, ⟨false, .hdr 3 gv9 gv10 gv11 gv12 (some gv13)⟩, ⟨false, .flat 0 (.ints .i64 gv14)⟩, ⟨false, .flat 0 (.ints .i64 gv15)⟩]⟩

theorem laws_intactInt64SS_shsh.b0_gen {ρ : Type} (N : Nat) (K : AV → Heap → Option ρ) (L0 : St → Option ρ) (kv : XE → St → Option ρ) (x0 : Nat) (x1 : Nat) (y2 : Nat) (y3 : Nat) (gv4 : Nat) (gv5 : Nat) (gv6 : Nat → Nat) (gv7 : Nat → Nat) (gv8 : Nat → Nat) (gv9 : Nat) (gv10 : Nat) (gv11 : Nat → Nat) (gv12 : Nat → Nat) (gv13 : Nat → Nat) (gv14 : Nat → Int) (gv15 : Nat → Int) (rv16 : Int) (i17 : Int) :
    xcode (E19 N) ents laws_intactInt64SS_shsh.kp 4 N (cL (cK (cB (cA (cB (cB (cB laws_intactInt64SS_shsh.bd))))))) 0 (laws_intactInt64SS_shsh.st0 x0 x1 y2 y3 gv4 gv5 gv6 gv7 gv8 gv9 gv10 gv11 gv12 gv13 gv14 gv15 rv16 i17) (roundK laws_intactInt64SS_shsh.kp 4 0 L0 (mixK (laws_intactInt64SS_shsh.fin N K gv4 gv5 gv6 gv7 gv8 gv9 gv10 gv11 gv12 gv13 gv14 gv15 .ret) kv)) = (laws_intactInt64SS_shsh.b0 N (fun d0 => K (.bool (d0)) [⟨false, .hdr 2 gv4 gv5 gv6 gv7 (some gv8)⟩, ⟨false, .hdr 3 gv9 gv10 gv11 gv12 (some gv13)⟩, ⟨false, .flat 0 (.ints .i64 gv14)⟩, ⟨false, .flat 0 (.ints .i64 gv15)⟩]) (fun i17 => L0 (laws_intactInt64SS_shsh.st0 x0 x1 y2 y3 gv4 gv5 gv6 gv7 gv8 gv9 gv10 gv11 gv12 gv13 gv14 gv15 rv16 i17)) (kv (.exit 0) (laws_intactInt64SS_shsh.sx0_0 x0 x1 y2 y3 gv4 gv5 gv6 gv7 gv8 gv9 gv10 gv11 gv12 gv13 gv14 gv15 rv16)) x0 y2 gv6 gv7 gv8 gv11 gv12 gv13 gv14 gv15 i17) := by kernel_rfl

theorem laws_intactInt64SS_shsh.b0_eq {ρ : Type} (N : Nat) (K : AV → Heap → Option ρ) (L0 : St → Option ρ) (x0 : Nat) (x1 : Nat) (y2 : Nat) (y3 : Nat) (gv4 : Nat) (gv5 : Nat) (gv6 : Nat → Nat) (gv7 : Nat → Nat) (gv8 : Nat → Nat) (gv9 : Nat) (gv10 : Nat) (gv11 : Nat → Nat) (gv12 : Nat → Nat) (gv13 : Nat → Nat) (gv14 : Nat → Int) (gv15 : Nat → Int) (rv16 : Int) (i17 : Int) :
    xcode (E19 N) ents laws_intactInt64SS_shsh.kp 4 N (cL (cK (cB (cA (cB (cB (cB laws_intactInt64SS_shsh.bd))))))) 0 (laws_intactInt64SS_shsh.st0 x0 x1 y2 y3 gv4 gv5 gv6 gv7 gv8 gv9 gv10 gv11 gv12 gv13 gv14 gv15 rv16 i17) (roundK laws_intactInt64SS_shsh.kp 4 0 L0 (laws_intactInt64SS_shsh.k0 N K gv4 gv5 gv6 gv7 gv8 gv9 gv10 gv11 gv12 gv13 gv14 gv15)) = (laws_intactInt64SS_shsh.b0 N (fun d0 => K (.bool (d0)) [⟨false, .hdr 2 gv4 gv5 gv6 gv7 (some gv8)⟩, ⟨false, .hdr 3 gv9 gv10 gv11 gv12 (some gv13)⟩, ⟨false, .flat 0 (.ints .i64 gv14)⟩, ⟨false, .flat 0 (.ints .i64 gv15)⟩]) (fun i17 => L0 (laws_intactInt64SS_shsh.st0 x0 x1 y2 y3 gv4 gv5 gv6 gv7 gv8 gv9 gv10 gv11 gv12 gv13 gv14 gv15 rv16 i17)) ((laws_intactInt64SS_shsh.k0 N K gv4 gv5 gv6 gv7 gv8 gv9 gv10 gv11 gv12 gv13 gv14 gv15) (.exit 0) (laws_intactInt64SS_shsh.sx0_0 x0 x1 y2 y3 gv4 gv5 gv6 gv7 gv8 gv9 gv10 gv11 gv12 gv13 gv14 gv15 rv16)) x0 y2 gv6 gv7 gv8 gv11 gv12 gv13 gv14 gv15 i17) := by
  have h := laws_intactInt64SS_shsh.b0_gen N K L0 (laws_intactInt64SS_shsh.k0 N K gv4 gv5 gv6 gv7 gv8 gv9 gv10 gv11 gv12 gv13 gv14 gv15) x0 x1 y2 y3 gv4 gv5 gv6 gv7 gv8 gv9 gv10 gv11 gv12 gv13 gv14 gv15 rv16 i17
  rw [laws_intactInt64SS_shsh.k0_mix] at h
  exact h

theorem laws_intactInt64SS_shsh.a0_0_eq {ρ : Type} (N : Nat) (K : AV → Heap → Option ρ) (x0 : Nat) (x1 : Nat) (y2 : Nat) (y3 : Nat) (gv4 : Nat) (gv5 : Nat) (gv6 : Nat → Nat) (gv7 : Nat → Nat) (gv8 : Nat → Nat) (gv9 : Nat) (gv10 : Nat) (gv11 : Nat → Nat) (gv12 : Nat → Nat) (gv13 : Nat → Nat) (gv14 : Nat → Int) (gv15 : Nat → Int) (rv16 : Int) :
    (laws_intactInt64SS_shsh.k0 N K gv4 gv5 gv6 gv7 gv8 gv9 gv10 gv11 gv12 gv13 gv14 gv15) (.exit 0) (laws_intactInt64SS_shsh.sx0_0 x0 x1 y2 y3 gv4 gv5 gv6 gv7 gv8 gv9 gv10 gv11 gv12 gv13 gv14 gv15 rv16) = (laws_intactInt64SS_shsh.a0_0 N (fun d0 => K (.bool (d0)) [⟨false, .hdr 2 gv4 gv5 gv6 gv7 (some gv8)⟩, ⟨false, .hdr 3 gv9 gv10 gv11 gv12 (some gv13)⟩, ⟨false, .flat 0 (.ints .i64 gv14)⟩, ⟨false, .flat 0 (.ints .i64 gv15)⟩]) x1 y2 y3 gv5 gv6 gv7 gv8 gv10 gv11 gv12 gv13 gv14 gv15 rv16) := by kernel_rfl

theorem laws_intactInt64SS_shsh.l0_eq {ρ : Type} (N : Nat) (K : AV → Heap → Option ρ) (x0 : Nat) (x1 : Nat) (y2 : Nat) (y3 : Nat) (gv4 : Nat) (gv5 : Nat) (gv6 : Nat → Nat) (gv7 : Nat → Nat) (gv8 : Nat → Nat) (gv9 : Nat) (gv10 : Nat) (gv11 : Nat → Nat) (gv12 : Nat → Nat) (gv13 : Nat → Nat) (gv14 : Nat → Int) (gv15 : Nat → Int) (rv16 : Int) :
    ∀ (m : Nat) (i17 : Int), xloop (xcode (E19 N) ents laws_intactInt64SS_shsh.kp 4 N (cL (cK (cB (cA (cB (cB (cB laws_intactInt64SS_shsh.bd))))))) 0) laws_intactInt64SS_shsh.kp 4 0 m (laws_intactInt64SS_shsh.st0 x0 x1 y2 y3 gv4 gv5 gv6 gv7 gv8 gv9 gv10 gv11 gv12 gv13 gv14 gv15 rv16 i17) (laws_intactInt64SS_shsh.k0 N K gv4 gv5 gv6 gv7 gv8 gv9 gv10 gv11 gv12 gv13 gv14 gv15) = (laws_intactInt64SS_shsh.l0 N (fun d0 => K (.bool (d0)) [⟨false, .hdr 2 gv4 gv5 gv6 gv7 (some gv8)⟩, ⟨false, .hdr 3 gv9 gv10 gv11 gv12 (some gv13)⟩, ⟨false, .flat 0 (.ints .i64 gv14)⟩, ⟨false, .flat 0 (.ints .i64 gv15)⟩]) x0 y2 gv6 gv7 gv8 gv11 gv12 gv13 gv14 gv15 ((laws_intactInt64SS_shsh.k0 N K gv4 gv5 gv6 gv7 gv8 gv9 gv10 gv11 gv12 gv13 gv14 gv15) (.exit 0) (laws_intactInt64SS_shsh.sx0_0 x0 x1 y2 y3 gv4 gv5 gv6 gv7 gv8 gv9 gv10 gv11 gv12 gv13 gv14 gv15 rv16)) m i17) := by
  intro m
  induction m with
  | zero => intros; rfl
  | succ m ih =>
    intro i17
    refine (laws_intactInt64SS_shsh.b0_eq N K (fun s => xloop (xcode (E19 N) ents laws_intactInt64SS_shsh.kp 4 N (cL (cK (cB (cA (cB (cB (cB laws_intactInt64SS_shsh.bd))))))) 0) laws_intactInt64SS_shsh.kp 4 0 m s (laws_intactInt64SS_shsh.k0 N K gv4 gv5 gv6 gv7 gv8 gv9 gv10 gv11 gv12 gv13 gv14 gv15)) x0 x1 y2 y3 gv4 gv5 gv6 gv7 gv8 gv9 gv10 gv11 gv12 gv13 gv14 gv15 rv16 i17).trans ?_
    simp only [ih]
    kernel_rfl

theorem laws_intactInt64SS_shsh.s_eq {ρ : Type} (N : Nat) (K : AV → Heap → Option ρ) (x0 : Nat) (x1 : Nat) (y2 : Nat) (y3 : Nat) (gv4 : Nat) (gv5 : Nat) (gv6 : Nat → Nat) (gv7 : Nat → Nat) (gv8 : Nat → Nat) (gv9 : Nat) (gv10 : Nat) (gv11 : Nat → Nat) (gv12 : Nat → Nat) (gv13 : Nat → Nat) (gv14 : Nat → Int) (gv15 : Nat → Int) :
    xbody (E19 N) ents laws_intactInt64SS_shsh.kp N Go.Proofs.Try.f12 laws_intactInt64SS_shsh.bd [.slice true 0 0 x0 (.exact x1) 1, .slice true 1 0 y2 (.exact y3) 1] [⟨false, .hdr 2 gv4 gv5 gv6 gv7 (some gv8)⟩, ⟨false, .hdr 3 gv9 gv10 gv11 gv12 (some gv13)⟩, ⟨false, .flat 0 (.ints .i64 gv14)⟩, ⟨false, .flat 0 (.ints .i64 gv15)⟩] K = (laws_intactInt64SS_shsh.s N (fun d0 => K (.bool (d0)) [⟨false, .hdr 2 gv4 gv5 gv6 gv7 (some gv8)⟩, ⟨false, .hdr 3 gv9 gv10 gv11 gv12 (some gv13)⟩, ⟨false, .flat 0 (.ints .i64 gv14)⟩, ⟨false, .flat 0 (.ints .i64 gv15)⟩]) (fun rv16 i17 => xloop (xcode (E19 N) ents laws_intactInt64SS_shsh.kp 4 N (cL (cK (cB (cA (cB (cB (cB laws_intactInt64SS_shsh.bd))))))) 0) laws_intactInt64SS_shsh.kp 4 0 N (laws_intactInt64SS_shsh.st0 x0 x1 y2 y3 gv4 gv5 gv6 gv7 gv8 gv9 gv10 gv11 gv12 gv13 gv14 gv15 rv16 i17) (laws_intactInt64SS_shsh.k0 N K gv4 gv5 gv6 gv7 gv8 gv9 gv10 gv11 gv12 gv13 gv14 gv15)) x0 y2) := by kernel_rfl

theorem laws_intactInt64SS_shsh.eq {ρ : Type} (N : Nat) (K : AV → Heap → Option ρ) (x0 : Nat) (x1 : Nat) (y2 : Nat) (y3 : Nat) (gv4 : Nat) (gv5 : Nat) (gv6 : Nat → Nat) (gv7 : Nat → Nat) (gv8 : Nat → Nat) (gv9 : Nat) (gv10 : Nat) (gv11 : Nat → Nat) (gv12 : Nat → Nat) (gv13 : Nat → Nat) (gv14 : Nat → Int) (gv15 : Nat → Int) :
    xbody (E19 N) ents laws_intactInt64SS_shsh.kp N Go.Proofs.Try.f12 laws_intactInt64SS_shsh.bd [.slice true 0 0 x0 (.exact x1) 1, .slice true 1 0 y2 (.exact y3) 1] [⟨false, .hdr 2 gv4 gv5 gv6 gv7 (some gv8)⟩, ⟨false, .hdr 3 gv9 gv10 gv11 gv12 (some gv13)⟩, ⟨false, .flat 0 (.ints .i64 gv14)⟩, ⟨false, .flat 0 (.ints .i64 gv15)⟩] K = (laws_intactInt64SS_shsh N (fun d0 => K (.bool (d0)) [⟨false, .hdr 2 gv4 gv5 gv6 gv7 (some gv8)⟩, ⟨false, .hdr 3 gv9 gv10 gv11 gv12 (some gv13)⟩, ⟨false, .flat 0 (.ints .i64 gv14)⟩, ⟨false, .flat 0 (.ints .i64 gv15)⟩]) x0 x1 y2 y3 gv4 gv5 gv6 gv7 gv8 gv9 gv10 gv11 gv12 gv13 gv14 gv15) := by
  refine (laws_intactInt64SS_shsh.s_eq N K x0 x1 y2 y3 gv4 gv5 gv6 gv7 gv8 gv9 gv10 gv11 gv12 gv13 gv14 gv15).trans ?_
  simp only [laws_intactInt64SS_shsh.l0_eq, laws_intactInt64SS_shsh.a0_0_eq]
  kernel_rfl

noncomputable def laws_intactInt64SS_shsh.en (N : Nat) (ρ : Type) : List AV → Heap → (AV → Heap → Option ρ) → Option ρ
  | [.slice true 0 0 x0 (.exact x1) 1, .slice true 1 0 y2 (.exact y3) 1], [⟨false, .hdr 2 gv4 gv5 gv6 gv7 (some gv8)⟩, ⟨false, .hdr 3 gv9 gv10 gv11 gv12 (some gv13)⟩, ⟨false, .flat 0 (.ints .i64 gv14)⟩, ⟨false, .flat 0 (.ints .i64 gv15)⟩], K => (laws_intactInt64SS_shsh N (fun d0 => K (.bool (d0)) [⟨false, .hdr 2 gv4 gv5 gv6 gv7 (some gv8)⟩, ⟨false, .hdr 3 gv9 gv10 gv11 gv12 (some gv13)⟩, ⟨false, .flat 0 (.ints .i64 gv14)⟩, ⟨false, .flat 0 (.ints .i64 gv15)⟩]) x0 x1 y2 y3 gv4 gv5 gv6 gv7 gv8 gv9 gv10 gv11 gv12 gv13 gv14 gv15)
  | _, _, _ => none

theorem laws_intactInt64SS_shsh.en_ok (N : Nat) (hE : EnvOk (E19 N) ents) (ρ : Type) (args : List AV) (sh : Heap) (K : AV → Heap → Option ρ) (r : ρ) (h : laws_intactInt64SS_shsh.en N ρ args sh K = some r) : ∃ v sh', K v sh' = some r ∧ FnOk (E19 N).P 12 args sh v sh' := by
  unfold laws_intactInt64SS_shsh.en at h
  split at h
  · exact fn_ok hE (kp := laws_intactInt64SS_shsh.kp) (N := N) Go.Proofs.Try.func12 (c := laws_intactInt64SS_shsh.bd) (by kernel_rfl) ((laws_intactInt64SS_shsh.eq N _ _ _ _ _ _ _ _ _ _ _ _ _ _ _ _ _).trans h)
  · cases h

noncomputable def E20 (N : Nat) : Env := (E19 N).add 12 (laws_intactInt64SS_shsh.en N)

theorem E20_ok (N : Nat) : EnvOk (E20 N) ents := Env.add_ok (E19_ok N) (laws_intactInt64SS_shsh.en_ok N (E19_ok N))

noncomputable def laws_FnExactIsGroupTable_suh.kp : Keeps := ⟨[], [], []⟩

noncomputable def laws_FnExactIsGroupTable_suh.bd : Code := bodyOf Go.Proofs.Try.f3

noncomputable def laws_FnExactIsGroupTable_suh.fin {ρ : Type} (N : Nat) (K : AV → Heap → Option ρ) (gv1 : Nat) (gv2 : Nat) (gv3 : Nat → Nat) (gv4 : Nat → Nat) (gv5 : Nat) (gv6 : Nat → Int) : XE → St → Option ρ := finK (E20 N) laws_FnExactIsGroupTable_suh.kp.fins Go.Proofs.Try.f3 [⟨false, .hdr 1 gv1 gv2 gv3 gv4 none⟩, ⟨false, .flat gv5 (.ints .i64 gv6)⟩] K

theorem laws_FnExactIsGroupTable_suh.eq {ρ : Type} (N : Nat) (K : AV → Heap → Option ρ) (aTable0 : Nat) (gv1 : Nat) (gv2 : Nat) (gv3 : Nat → Nat) (gv4 : Nat → Nat) (gv5 : Nat) (gv6 : Nat → Int) :
    xbody (E20 N) ents laws_FnExactIsGroupTable_suh.kp N Go.Proofs.Try.f3 laws_FnExactIsGroupTable_suh.bd [.slice false 0 0 aTable0 .unk 1] [⟨false, .hdr 1 gv1 gv2 gv3 gv4 none⟩, ⟨false, .flat gv5 (.ints .i64 gv6)⟩] K = (laws_FnExactIsGroupTable_suh N (fun d0 => K (.bool (d0)) [⟨false, .hdr 1 gv1 gv2 gv3 gv4 none⟩, ⟨false, .flat gv5 (.ints .i64 gv6)⟩]) aTable0 gv1 gv2 gv3 gv4 gv5 gv6) := by kernel_rfl

noncomputable def laws_FnExactIsGroupTable_suh.en (N : Nat) (ρ : Type) : List AV → Heap → (AV → Heap → Option ρ) → Option ρ
  | [.slice false 0 0 aTable0 .unk 1], [⟨false, .hdr 1 gv1 gv2 gv3 gv4 none⟩, ⟨false, .flat gv5 (.ints .i64 gv6)⟩], K => (laws_FnExactIsGroupTable_suh N (fun d0 => K (.bool (d0)) [⟨false, .hdr 1 gv1 gv2 gv3 gv4 none⟩, ⟨false, .flat gv5 (.ints .i64 gv6)⟩]) aTable0 gv1 gv2 gv3 gv4 gv5 gv6)
  | _, _, _ => none

theorem laws_FnExactIsGroupTable_suh.en_ok (N : Nat) (hE : EnvOk (E20 N) ents) (ρ : Type) (args : List AV) (sh : Heap) (K : AV → Heap → Option ρ) (r : ρ) (h : laws_FnExactIsGroupTable_suh.en N ρ args sh K = some r) : ∃ v sh', K v sh' = some r ∧ FnOk (E20 N).P 3 args sh v sh' := by
  unfold laws_FnExactIsGroupTable_suh.en at h
  split at h
  · exact fn_ok hE (kp := laws_FnExactIsGroupTable_suh.kp) (N := N) Go.Proofs.Try.func3 (c := laws_FnExactIsGroupTable_suh.bd) (by kernel_rfl) ((laws_FnExactIsGroupTable_suh.eq N _ _ _ _ _ _ _ _).trans h)
  · cases h

noncomputable def E21 (N : Nat) : Env := (E20 N).add 3 (laws_FnExactIsGroupTable_suh.en N)

theorem E21_ok (N : Nat) : EnvOk (E21 N) ents := Env.add_ok (E20_ok N) (laws_FnExactIsGroupTable_suh.en_ok N (E20_ok N))
end Go.Proofs.YtiifnnokpjbapaaRR.H
