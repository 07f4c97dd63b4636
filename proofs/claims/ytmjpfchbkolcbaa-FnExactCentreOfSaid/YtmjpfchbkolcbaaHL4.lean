import Derived.Test.YtmjpfchbkolcbaaHL3
namespace Go.Proofs.Ytmjpfchbkolcbaa.H
noncomputable section
set_option linter.unusedVariables false
set_option linter.unusedSimpArgs false
open Go Go.RowKit Go.Proofs.Ytmjpfchbkolcbaa.Hy
set_option maxRecDepth 100000
theorem impl_kernel_f.en_ok (N : Nat) (hE : EnvOk (E62 N) ents) (ρ : Type) (args : List AV) (sh : Heap) (K : AV → Heap → Option ρ) (r : ρ) (h : impl_kernel_f.en N ρ args sh K = some r) : ∃ v sh', K v sh' = some r ∧ FnOk (E62 N).P 80 args sh v sh' := by
  unfold impl_kernel_f.en at h
  split at h
  · exact fn_ok hE (kp := impl_kernel_f.kp) (N := N) Try.func80 (c := impl_kernel_f.bd) (by kernel_rfl) ((impl_kernel_f.eq N _ _ _ _ _ _).trans h)
  · cases h
def E63 (N : Nat) : Env := (E62 N).add 80 (impl_kernel_f.en N)
theorem E63_ok (N : Nat) : EnvOk (E63 N) ents := Env.add_ok (E62_ok N) (impl_kernel_f.en_ok N (E62_ok N))
def impl_CentreOf.kp : Keeps := ⟨[], [], [(.slot 2, .unk (.ints .u8 (fun _ => 0)) 8)]⟩
def impl_CentreOf.bd : Code := bodyOf Try.f44
def impl_CentreOf.fin {ρ : Type} (N : Nat) (K : AV → Heap → Option ρ) : XE → St → Option ρ := finK (E63 N) impl_CentreOf.kp.fins Try.f44 [] K
theorem impl_CentreOf.eq {ρ : Type} (N : Nat) (K : AV → Heap → Option ρ) (av0 : Nat → Int) (av1 : Nat → Int) :
    xbody (E63 N) ents impl_CentreOf.kp N Try.f44 impl_CentreOf.bd [.agg [⟨.i64, 2, av0⟩, ⟨.u8, 520, av1⟩]] [] K = (impl_CentreOf N (fun d0 d1 d2 => K (.tup [.slice false 0 0 d0 .unk 8, .int .i64 (d1)]) [⟨true, .flat 0 (.ints .u8 d2)⟩]) av0 av1) := by kernel_rfl
def impl_CentreOf.en (N : Nat) (ρ : Type) : List AV → Heap → (AV → Heap → Option ρ) → Option ρ
  | [.agg [⟨.i64, 2, av0⟩, ⟨.u8, 520, av1⟩]], [], K => (impl_CentreOf N (fun d0 d1 d2 => K (.tup [.slice false 0 0 d0 .unk 8, .int .i64 (d1)]) [⟨true, .flat 0 (.ints .u8 d2)⟩]) av0 av1)
  | _, _, _ => none
theorem impl_CentreOf.en_ok (N : Nat) (hE : EnvOk (E63 N) ents) (ρ : Type) (args : List AV) (sh : Heap) (K : AV → Heap → Option ρ) (r : ρ) (h : impl_CentreOf.en N ρ args sh K = some r) : ∃ v sh', K v sh' = some r ∧ FnOk (E63 N).P 44 args sh v sh' := by
  unfold impl_CentreOf.en at h
  split at h
  · exact fn_ok hE (kp := impl_CentreOf.kp) (N := N) Try.func44 (c := impl_CentreOf.bd) (by kernel_rfl) ((impl_CentreOf.eq N _ _ _).trans h)
  · cases h
def E64 (N : Nat) : Env := (E63 N).add 44 (impl_CentreOf.en N)
theorem E64_ok (N : Nat) : EnvOk (E64 N) ents := Env.add_ok (E63_ok N) (impl_CentreOf.en_ok N (E63_ok N))
def laws_eqVector.kp : Keeps := ⟨[(0, [2, 3, 5], [], [])], [(0, [], [], [])], []⟩
def laws_eqVector.bd : Code := bodyOf Try.f27
def laws_eqVector.fin {ρ : Type} (N : Nat) (K : AV → Heap → Option ρ) : XE → St → Option ρ := finK (E64 N) laws_eqVector.kp.fins Try.f27 [] K
def laws_eqVector.k0 {ρ : Type} (N : Nat) (K : AV → Heap → Option ρ) : XE → St → Option ρ := (blockK laws_eqVector.kp 0 0 (seqK (xcode (E64 N) ents laws_eqVector.kp 0 N (cB (cB laws_eqVector.bd)) 0) (laws_eqVector.fin N K)))
theorem laws_eqVector.k0_mix {ρ : Type} (N : Nat) (K : AV → Heap → Option ρ) : mixK (laws_eqVector.fin N K .ret) (laws_eqVector.k0 N K) = (laws_eqVector.k0 N K) := by
  funext e s; cases e <;> kernel_rfl
def laws_eqVector.st0 (av0 : Nat → Int) (bv1 : Nat → Int) (i2 : Int) : St := ⟨sl 17 [(2, .sptr [(0, 8)]), (3, .sptr [(1, 8)]), (5, .int .i64 (i2))], [⟨true, .flat 8 (.ints .u8 av0)⟩, ⟨true, .flat 8 (.ints .u8 bv1)⟩]⟩
def laws_eqVector.sx0_0 : St := ⟨sl 17 [], []⟩
theorem laws_eqVector.b0_gen {ρ : Type} (N : Nat) (K : AV → Heap → Option ρ) (L0 : St → Option ρ) (kv : XE → St → Option ρ) (av0 : Nat → Int) (bv1 : Nat → Int) (i2 : Int) :
    xcode (E64 N) ents laws_eqVector.kp 0 N (cL (cK (cB (cA (cB laws_eqVector.bd))))) 0 (laws_eqVector.st0 av0 bv1 i2) (roundK laws_eqVector.kp 0 0 L0 (mixK (laws_eqVector.fin N K .ret) kv)) = (laws_eqVector.b0 N (fun d0 => K (.bool (d0)) []) (fun i2 => L0 (laws_eqVector.st0 av0 bv1 i2)) (kv (.exit 0) (laws_eqVector.sx0_0)) av0 bv1 i2) := by kernel_rfl
theorem laws_eqVector.b0_eq {ρ : Type} (N : Nat) (K : AV → Heap → Option ρ) (L0 : St → Option ρ) (av0 : Nat → Int) (bv1 : Nat → Int) (i2 : Int) :
    xcode (E64 N) ents laws_eqVector.kp 0 N (cL (cK (cB (cA (cB laws_eqVector.bd))))) 0 (laws_eqVector.st0 av0 bv1 i2) (roundK laws_eqVector.kp 0 0 L0 (laws_eqVector.k0 N K)) = (laws_eqVector.b0 N (fun d0 => K (.bool (d0)) []) (fun i2 => L0 (laws_eqVector.st0 av0 bv1 i2)) ((laws_eqVector.k0 N K) (.exit 0) (laws_eqVector.sx0_0)) av0 bv1 i2) := by
  have h := laws_eqVector.b0_gen N K L0 (laws_eqVector.k0 N K) av0 bv1 i2
  rw [laws_eqVector.k0_mix] at h
  exact h
theorem laws_eqVector.a0_0_eq {ρ : Type} (N : Nat) (K : AV → Heap → Option ρ) :
    (laws_eqVector.k0 N K) (.exit 0) (laws_eqVector.sx0_0) = (laws_eqVector.a0_0 N (fun d0 => K (.bool (d0)) [])) := by kernel_rfl
theorem laws_eqVector.l0_eq {ρ : Type} (N : Nat) (K : AV → Heap → Option ρ) (av0 : Nat → Int) (bv1 : Nat → Int) :
    ∀ (m : Nat) (i2 : Int), xloop (xcode (E64 N) ents laws_eqVector.kp 0 N (cL (cK (cB (cA (cB laws_eqVector.bd))))) 0) laws_eqVector.kp 0 0 m (laws_eqVector.st0 av0 bv1 i2) (laws_eqVector.k0 N K) = (laws_eqVector.l0 N (fun d0 => K (.bool (d0)) []) av0 bv1 ((laws_eqVector.k0 N K) (.exit 0) (laws_eqVector.sx0_0)) m i2) := by
  intro m
  induction m with
  | zero => intros; rfl
  | succ m ih =>
    intro i2
    refine (laws_eqVector.b0_eq N K (fun s => xloop (xcode (E64 N) ents laws_eqVector.kp 0 N (cL (cK (cB (cA (cB laws_eqVector.bd))))) 0) laws_eqVector.kp 0 0 m s (laws_eqVector.k0 N K)) av0 bv1 i2).trans ?_
    simp only [ih]
    kernel_rfl
theorem laws_eqVector.s_eq {ρ : Type} (N : Nat) (K : AV → Heap → Option ρ) (av0 : Nat → Int) (bv1 : Nat → Int) :
    xbody (E64 N) ents laws_eqVector.kp N Try.f27 laws_eqVector.bd [.agg [⟨.u8, 8, av0⟩], .agg [⟨.u8, 8, bv1⟩]] [] K = (laws_eqVector.s N (fun d0 => K (.bool (d0)) []) (fun i2 => xloop (xcode (E64 N) ents laws_eqVector.kp 0 N (cL (cK (cB (cA (cB laws_eqVector.bd))))) 0) laws_eqVector.kp 0 0 N (laws_eqVector.st0 av0 bv1 i2) (laws_eqVector.k0 N K))) := by kernel_rfl
theorem laws_eqVector.eq {ρ : Type} (N : Nat) (K : AV → Heap → Option ρ) (av0 : Nat → Int) (bv1 : Nat → Int) :
    xbody (E64 N) ents laws_eqVector.kp N Try.f27 laws_eqVector.bd [.agg [⟨.u8, 8, av0⟩], .agg [⟨.u8, 8, bv1⟩]] [] K = (laws_eqVector N (fun d0 => K (.bool (d0)) []) av0 bv1) := by
  refine (laws_eqVector.s_eq N K av0 bv1).trans ?_
  simp only [laws_eqVector.l0_eq, laws_eqVector.a0_0_eq]
  kernel_rfl
def laws_eqVector.en (N : Nat) (ρ : Type) : List AV → Heap → (AV → Heap → Option ρ) → Option ρ
  | [.agg [⟨.u8, 8, av0⟩], .agg [⟨.u8, 8, bv1⟩]], [], K => (laws_eqVector N (fun d0 => K (.bool (d0)) []) av0 bv1)
  | _, _, _ => none
theorem laws_eqVector.en_ok (N : Nat) (hE : EnvOk (E64 N) ents) (ρ : Type) (args : List AV) (sh : Heap) (K : AV → Heap → Option ρ) (r : ρ) (h : laws_eqVector.en N ρ args sh K = some r) : ∃ v sh', K v sh' = some r ∧ FnOk (E64 N).P 27 args sh v sh' := by
  unfold laws_eqVector.en at h
  split at h
  · exact fn_ok hE (kp := laws_eqVector.kp) (N := N) Try.func27 (c := laws_eqVector.bd) (by kernel_rfl) ((laws_eqVector.eq N _ _ _).trans h)
  · cases h
def E65 (N : Nat) : Env := (E64 N).add 27 (laws_eqVector.en N)
theorem E65_ok (N : Nat) : EnvOk (E65 N) ents := Env.add_ok (E64_ok N) (laws_eqVector.en_ok N (E64_ok N))
def laws_eqVectorS_susu.kp : Keeps := ⟨[(0, [0, 1, 5], [], [])], [(0, [], [], [])], []⟩
def laws_eqVectorS_susu.bd : Code := bodyOf Try.f45
def laws_eqVectorS_susu.fin {ρ : Type} (N : Nat) (K : AV → Heap → Option ρ) (gv2 : Nat) (gv3 : Nat → Int) (gv4 : Nat) (gv5 : Nat → Int) : XE → St → Option ρ := finK (E65 N) laws_eqVectorS_susu.kp.fins Try.f45 [⟨false, .flat gv2 (.ints .u8 gv3)⟩, ⟨false, .flat gv4 (.ints .u8 gv5)⟩] K
def laws_eqVectorS_susu.k0 {ρ : Type} (N : Nat) (K : AV → Heap → Option ρ) (gv2 : Nat) (gv3 : Nat → Int) (gv4 : Nat) (gv5 : Nat → Int) : XE → St → Option ρ := (blockK laws_eqVectorS_susu.kp 2 0 (seqK (xcode (E65 N) ents laws_eqVectorS_susu.kp 2 N (cB (cB (cB laws_eqVectorS_susu.bd))) 0) (laws_eqVectorS_susu.fin N K gv2 gv3 gv4 gv5)))
theorem laws_eqVectorS_susu.k0_mix {ρ : Type} (N : Nat) (K : AV → Heap → Option ρ) (gv2 : Nat) (gv3 : Nat → Int) (gv4 : Nat) (gv5 : Nat → Int) : mixK (laws_eqVectorS_susu.fin N K gv2 gv3 gv4 gv5 .ret) (laws_eqVectorS_susu.k0 N K gv2 gv3 gv4 gv5) = (laws_eqVectorS_susu.k0 N K gv2 gv3 gv4 gv5) := by
  funext e s; cases e <;> kernel_rfl
def laws_eqVectorS_susu.st0 (av0 : Nat) (bv1 : Nat) (gv2 : Nat) (gv3 : Nat → Int) (gv4 : Nat) (gv5 : Nat → Int) (i6 : Int) : St := ⟨sl 27 [(0, .slice false 0 0 av0 .unk 8), (1, .slice false 1 0 bv1 .unk 8), (5, .int .i64 (i6))], [⟨false, .flat gv2 (.ints .u8 gv3)⟩, ⟨false, .flat gv4 (.ints .u8 gv5)⟩]⟩
def laws_eqVectorS_susu.sx0_0 (gv2 : Nat) (gv3 : Nat → Int) (gv4 : Nat) (gv5 : Nat → Int) : St := ⟨sl 27 [], [⟨false, .flat gv2 (.ints .u8 gv3)⟩, ⟨false, .flat gv4 (.ints .u8 gv5)⟩]⟩
theorem laws_eqVectorS_susu.b0_gen {ρ : Type} (N : Nat) (K : AV → Heap → Option ρ) (L0 : St → Option ρ) (kv : XE → St → Option ρ) (av0 : Nat) (bv1 : Nat) (gv2 : Nat) (gv3 : Nat → Int) (gv4 : Nat) (gv5 : Nat → Int) (i6 : Int) :
    xcode (E65 N) ents laws_eqVectorS_susu.kp 2 N (cL (cK (cB (cA (cB (cB laws_eqVectorS_susu.bd)))))) 0 (laws_eqVectorS_susu.st0 av0 bv1 gv2 gv3 gv4 gv5 i6) (roundK laws_eqVectorS_susu.kp 2 0 L0 (mixK (laws_eqVectorS_susu.fin N K gv2 gv3 gv4 gv5 .ret) kv)) = (laws_eqVectorS_susu.b0 N (fun d0 => K (.bool (d0)) [⟨false, .flat gv2 (.ints .u8 gv3)⟩, ⟨false, .flat gv4 (.ints .u8 gv5)⟩]) (fun i6 => L0 (laws_eqVectorS_susu.st0 av0 bv1 gv2 gv3 gv4 gv5 i6)) (kv (.exit 0) (laws_eqVectorS_susu.sx0_0 gv2 gv3 gv4 gv5)) av0 bv1 gv3 gv5 i6) := by kernel_rfl
theorem laws_eqVectorS_susu.b0_eq {ρ : Type} (N : Nat) (K : AV → Heap → Option ρ) (L0 : St → Option ρ) (av0 : Nat) (bv1 : Nat) (gv2 : Nat) (gv3 : Nat → Int) (gv4 : Nat) (gv5 : Nat → Int) (i6 : Int) :
    xcode (E65 N) ents laws_eqVectorS_susu.kp 2 N (cL (cK (cB (cA (cB (cB laws_eqVectorS_susu.bd)))))) 0 (laws_eqVectorS_susu.st0 av0 bv1 gv2 gv3 gv4 gv5 i6) (roundK laws_eqVectorS_susu.kp 2 0 L0 (laws_eqVectorS_susu.k0 N K gv2 gv3 gv4 gv5)) = (laws_eqVectorS_susu.b0 N (fun d0 => K (.bool (d0)) [⟨false, .flat gv2 (.ints .u8 gv3)⟩, ⟨false, .flat gv4 (.ints .u8 gv5)⟩]) (fun i6 => L0 (laws_eqVectorS_susu.st0 av0 bv1 gv2 gv3 gv4 gv5 i6)) ((laws_eqVectorS_susu.k0 N K gv2 gv3 gv4 gv5) (.exit 0) (laws_eqVectorS_susu.sx0_0 gv2 gv3 gv4 gv5)) av0 bv1 gv3 gv5 i6) := by
  have h := laws_eqVectorS_susu.b0_gen N K L0 (laws_eqVectorS_susu.k0 N K gv2 gv3 gv4 gv5) av0 bv1 gv2 gv3 gv4 gv5 i6
  rw [laws_eqVectorS_susu.k0_mix] at h
  exact h
theorem laws_eqVectorS_susu.a0_0_eq {ρ : Type} (N : Nat) (K : AV → Heap → Option ρ) (gv2 : Nat) (gv3 : Nat → Int) (gv4 : Nat) (gv5 : Nat → Int) :
    (laws_eqVectorS_susu.k0 N K gv2 gv3 gv4 gv5) (.exit 0) (laws_eqVectorS_susu.sx0_0 gv2 gv3 gv4 gv5) = (laws_eqVectorS_susu.a0_0 N (fun d0 => K (.bool (d0)) [⟨false, .flat gv2 (.ints .u8 gv3)⟩, ⟨false, .flat gv4 (.ints .u8 gv5)⟩])) := by kernel_rfl
theorem laws_eqVectorS_susu.l0_eq {ρ : Type} (N : Nat) (K : AV → Heap → Option ρ) (av0 : Nat) (bv1 : Nat) (gv2 : Nat) (gv3 : Nat → Int) (gv4 : Nat) (gv5 : Nat → Int) :
    ∀ (m : Nat) (i6 : Int), xloop (xcode (E65 N) ents laws_eqVectorS_susu.kp 2 N (cL (cK (cB (cA (cB (cB laws_eqVectorS_susu.bd)))))) 0) laws_eqVectorS_susu.kp 2 0 m (laws_eqVectorS_susu.st0 av0 bv1 gv2 gv3 gv4 gv5 i6) (laws_eqVectorS_susu.k0 N K gv2 gv3 gv4 gv5) = (laws_eqVectorS_susu.l0 N (fun d0 => K (.bool (d0)) [⟨false, .flat gv2 (.ints .u8 gv3)⟩, ⟨false, .flat gv4 (.ints .u8 gv5)⟩]) av0 bv1 gv3 gv5 ((laws_eqVectorS_susu.k0 N K gv2 gv3 gv4 gv5) (.exit 0) (laws_eqVectorS_susu.sx0_0 gv2 gv3 gv4 gv5)) m i6) := by
  intro m
  induction m with
  | zero => intros; rfl
  | succ m ih =>
    intro i6
    refine (laws_eqVectorS_susu.b0_eq N K (fun s => xloop (xcode (E65 N) ents laws_eqVectorS_susu.kp 2 N (cL (cK (cB (cA (cB (cB laws_eqVectorS_susu.bd)))))) 0) laws_eqVectorS_susu.kp 2 0 m s (laws_eqVectorS_susu.k0 N K gv2 gv3 gv4 gv5)) av0 bv1 gv2 gv3 gv4 gv5 i6).trans ?_
    simp only [ih]
    kernel_rfl
theorem laws_eqVectorS_susu.s_eq {ρ : Type} (N : Nat) (K : AV → Heap → Option ρ) (av0 : Nat) (bv1 : Nat) (gv2 : Nat) (gv3 : Nat → Int) (gv4 : Nat) (gv5 : Nat → Int) :
    xbody (E65 N) ents laws_eqVectorS_susu.kp N Try.f45 laws_eqVectorS_susu.bd [.slice false 0 0 av0 .unk 8, .slice false 1 0 bv1 .unk 8] [⟨false, .flat gv2 (.ints .u8 gv3)⟩, ⟨false, .flat gv4 (.ints .u8 gv5)⟩] K = (laws_eqVectorS_susu.s N (fun d0 => K (.bool (d0)) [⟨false, .flat gv2 (.ints .u8 gv3)⟩, ⟨false, .flat gv4 (.ints .u8 gv5)⟩]) (fun i6 => xloop (xcode (E65 N) ents laws_eqVectorS_susu.kp 2 N (cL (cK (cB (cA (cB (cB laws_eqVectorS_susu.bd)))))) 0) laws_eqVectorS_susu.kp 2 0 N (laws_eqVectorS_susu.st0 av0 bv1 gv2 gv3 gv4 gv5 i6) (laws_eqVectorS_susu.k0 N K gv2 gv3 gv4 gv5)) av0 bv1) := by kernel_rfl
theorem laws_eqVectorS_susu.eq {ρ : Type} (N : Nat) (K : AV → Heap → Option ρ) (av0 : Nat) (bv1 : Nat) (gv2 : Nat) (gv3 : Nat → Int) (gv4 : Nat) (gv5 : Nat → Int) :
    xbody (E65 N) ents laws_eqVectorS_susu.kp N Try.f45 laws_eqVectorS_susu.bd [.slice false 0 0 av0 .unk 8, .slice false 1 0 bv1 .unk 8] [⟨false, .flat gv2 (.ints .u8 gv3)⟩, ⟨false, .flat gv4 (.ints .u8 gv5)⟩] K = (laws_eqVectorS_susu N (fun d0 => K (.bool (d0)) [⟨false, .flat gv2 (.ints .u8 gv3)⟩, ⟨false, .flat gv4 (.ints .u8 gv5)⟩]) av0 bv1 gv2 gv3 gv4 gv5) := by
  refine (laws_eqVectorS_susu.s_eq N K av0 bv1 gv2 gv3 gv4 gv5).trans ?_
  simp only [laws_eqVectorS_susu.l0_eq, laws_eqVectorS_susu.a0_0_eq]
  kernel_rfl
def laws_eqVectorS_susu.en (N : Nat) (ρ : Type) : List AV → Heap → (AV → Heap → Option ρ) → Option ρ
  | [.slice false 0 0 av0 .unk 8, .slice false 1 0 bv1 .unk 8], [⟨false, .flat gv2 (.ints .u8 gv3)⟩, ⟨false, .flat gv4 (.ints .u8 gv5)⟩], K => (laws_eqVectorS_susu N (fun d0 => K (.bool (d0)) [⟨false, .flat gv2 (.ints .u8 gv3)⟩, ⟨false, .flat gv4 (.ints .u8 gv5)⟩]) av0 bv1 gv2 gv3 gv4 gv5)
  | _, _, _ => none
theorem laws_eqVectorS_susu.en_ok (N : Nat) (hE : EnvOk (E65 N) ents) (ρ : Type) (args : List AV) (sh : Heap) (K : AV → Heap → Option ρ) (r : ρ) (h : laws_eqVectorS_susu.en N ρ args sh K = some r) : ∃ v sh', K v sh' = some r ∧ FnOk (E65 N).P 45 args sh v sh' := by
  unfold laws_eqVectorS_susu.en at h
  split at h
  · exact fn_ok hE (kp := laws_eqVectorS_susu.kp) (N := N) Try.func45 (c := laws_eqVectorS_susu.bd) (by kernel_rfl) ((laws_eqVectorS_susu.eq N _ _ _ _ _ _ _).trans h)
  · cases h
def E66 (N : Nat) : Env := (E65 N).add 45 (laws_eqVectorS_susu.en N)
theorem E66_ok (N : Nat) : EnvOk (E66 N) ents := Env.add_ok (E65_ok N) (laws_eqVectorS_susu.en_ok N (E65_ok N))
def laws_markVectorS_su.kp : Keeps := ⟨[(0, [0, 1, 5], [], []), (2, [0, 1, 5, 6], [], [])], [(0, [1], [], []), (2, [0, 1, 5], [], [])], []⟩
def laws_markVectorS_su.bd : Code := bodyOf Try.f46
def laws_markVectorS_su.fin {ρ : Type} (N : Nat) (K : AV → Heap → Option ρ) (gv2 : Nat) (gv3 : Nat → Int) : XE → St → Option ρ := finK (E66 N) laws_markVectorS_su.kp.fins Try.f46 [⟨true, .flat gv2 (.ints .u8 gv3)⟩] K
def laws_markVectorS_su.k0 {ρ : Type} (N : Nat) (K : AV → Heap → Option ρ) (gv2 : Nat) (gv3 : Nat → Int) : XE → St → Option ρ := (blockK laws_markVectorS_su.kp 1 0 (seqK (xcode (E66 N) ents laws_markVectorS_su.kp 1 N (cB (cB laws_markVectorS_su.bd)) 0) (laws_markVectorS_su.fin N K gv2 gv3)))
theorem laws_markVectorS_su.k0_mix {ρ : Type} (N : Nat) (K : AV → Heap → Option ρ) (gv2 : Nat) (gv3 : Nat → Int) : mixK (laws_markVectorS_su.fin N K gv2 gv3 .ret) (laws_markVectorS_su.k0 N K gv2 gv3) = (laws_markVectorS_su.k0 N K gv2 gv3) := by
  funext e s; cases e <;> kernel_rfl
def laws_markVectorS_su.st0 (av0 : Nat) (gv2 : Nat) (k4 : Int) (i5 : Int) (gv6 : Nat → Int) : St := ⟨sl 27 [(0, .slice false 0 0 av0 .unk 8), (1, .int .i64 (k4)), (5, .int .i64 (i5))], [⟨true, .flat gv2 (.ints .u8 gv6)⟩]⟩
def laws_markVectorS_su.sx0_0 (gv2 : Nat) (ov12 : Int) (ov13 : Nat → Int) : St := ⟨sl 27 [(1, .int .i64 (ov12))], [⟨true, .flat gv2 (.ints .u8 ov13)⟩]⟩
def laws_markVectorS_su.k1g {ρ : Type} (N : Nat) (L0 : St → Option ρ) (kv : XE → St → Option ρ) : XE → St → Option ρ := (blockK laws_markVectorS_su.kp 1 2 (blockK laws_markVectorS_su.kp 1 1 (seqK (xcode (E66 N) ents laws_markVectorS_su.kp 1 N (cB (cB (cL (cK (cB (cA (cB laws_markVectorS_su.bd))))))) 0) (roundK laws_markVectorS_su.kp 1 0 L0 kv))))
theorem laws_markVectorS_su.k1_mix {ρ : Type} (N : Nat) (K : AV → Heap → Option ρ) (L0 : St → Option ρ) (gv2 : Nat) (gv3 : Nat → Int) : mixK (laws_markVectorS_su.fin N K gv2 gv3 .ret) (laws_markVectorS_su.k1g N L0 (laws_markVectorS_su.k0 N K gv2 gv3)) = (laws_markVectorS_su.k1g N L0 (laws_markVectorS_su.k0 N K gv2 gv3)) := by
  funext e s; cases e <;> kernel_rfl
def laws_markVectorS_su.st1 (av0 : Nat) (gv2 : Nat) (i5 : Int) (k7 : Int) (j8 : Int) (gv9 : Nat → Int) : St := ⟨sl 27 [(0, .slice false 0 0 av0 .unk 8), (1, .int .i64 (k7)), (5, .int .i64 (i5)), (6, .int .i64 (j8))], [⟨true, .flat gv2 (.ints .u8 gv9)⟩]⟩
def laws_markVectorS_su.sx1_0 (av0 : Nat) (gv2 : Nat) (i5 : Int) (ov10 : Int) (ov11 : Nat → Int) : St := ⟨sl 27 [(0, .slice false 0 0 av0 .unk 8), (1, .int .i64 (ov10)), (5, .int .i64 (i5))], [⟨true, .flat gv2 (.ints .u8 ov11)⟩]⟩
theorem laws_markVectorS_su.b1_gen {ρ : Type} (N : Nat) (K : AV → Heap → Option ρ) (L1 : St → Option ρ) (kv : XE → St → Option ρ) (av0 : Nat) (gv2 : Nat) (gv3 : Nat → Int) (i5 : Int) (k7 : Int) (j8 : Int) (gv9 : Nat → Int) :
    xcode (E66 N) ents laws_markVectorS_su.kp 1 N (cL (cK (cB (cK (cA (cB (cL (cK (cB (cA (cB laws_markVectorS_su.bd))))))))))) 2 (laws_markVectorS_su.st1 av0 gv2 i5 k7 j8 gv9) (roundK laws_markVectorS_su.kp 1 2 L1 (mixK (laws_markVectorS_su.fin N K gv2 gv3 .ret) kv)) = (laws_markVectorS_su.b1 N (fun d0 d1 => K (.int .i64 (d0)) [⟨true, .flat gv2 (.ints .u8 d1)⟩]) (fun k7 j8 gv9 => L1 (laws_markVectorS_su.st1 av0 gv2 i5 k7 j8 gv9)) (fun ov10 ov11 => kv (.exit 2) (laws_markVectorS_su.sx1_0 av0 gv2 i5 ov10 ov11)) av0 i5 k7 j8 gv9) := by kernel_rfl
theorem laws_markVectorS_su.b1_eq {ρ : Type} (N : Nat) (K : AV → Heap → Option ρ) (L0 : St → Option ρ) (L1 : St → Option ρ) (av0 : Nat) (gv2 : Nat) (gv3 : Nat → Int) (i5 : Int) (k7 : Int) (j8 : Int) (gv9 : Nat → Int) :
    xcode (E66 N) ents laws_markVectorS_su.kp 1 N (cL (cK (cB (cK (cA (cB (cL (cK (cB (cA (cB laws_markVectorS_su.bd))))))))))) 2 (laws_markVectorS_su.st1 av0 gv2 i5 k7 j8 gv9) (roundK laws_markVectorS_su.kp 1 2 L1 (laws_markVectorS_su.k1g N L0 (laws_markVectorS_su.k0 N K gv2 gv3))) = (laws_markVectorS_su.b1 N (fun d0 d1 => K (.int .i64 (d0)) [⟨true, .flat gv2 (.ints .u8 d1)⟩]) (fun k7 j8 gv9 => L1 (laws_markVectorS_su.st1 av0 gv2 i5 k7 j8 gv9)) (fun ov10 ov11 => (laws_markVectorS_su.k1g N L0 (laws_markVectorS_su.k0 N K gv2 gv3)) (.exit 2) (laws_markVectorS_su.sx1_0 av0 gv2 i5 ov10 ov11)) av0 i5 k7 j8 gv9) := by
  have h := laws_markVectorS_su.b1_gen N K L1 (laws_markVectorS_su.k1g N L0 (laws_markVectorS_su.k0 N K gv2 gv3)) av0 gv2 gv3 i5 k7 j8 gv9
  rw [laws_markVectorS_su.k1_mix] at h
  exact h
theorem laws_markVectorS_su.a1_0_gen {ρ : Type} (N : Nat) (K : AV → Heap → Option ρ) (L0 : St → Option ρ) (kv : XE → St → Option ρ) (av0 : Nat) (gv2 : Nat) (gv3 : Nat → Int) (i5 : Int) (ov10 : Int) (ov11 : Nat → Int) :
    (laws_markVectorS_su.k1g N L0 (mixK (laws_markVectorS_su.fin N K gv2 gv3 .ret) kv)) (.exit 2) (laws_markVectorS_su.sx1_0 av0 gv2 i5 ov10 ov11) = (laws_markVectorS_su.a1_0 N (fun d0 d1 => K (.int .i64 (d0)) [⟨true, .flat gv2 (.ints .u8 d1)⟩]) (fun k4 i5 gv6 => L0 (laws_markVectorS_su.st0 av0 gv2 k4 i5 gv6)) (fun ov12 ov13 => kv (.exit 0) (laws_markVectorS_su.sx0_0 gv2 ov12 ov13)) i5 ov10 ov11) := by kernel_rfl
theorem laws_markVectorS_su.a1_0_eq {ρ : Type} (N : Nat) (K : AV → Heap → Option ρ) (L0 : St → Option ρ) (av0 : Nat) (gv2 : Nat) (gv3 : Nat → Int) (i5 : Int) (ov10 : Int) (ov11 : Nat → Int) :
    (laws_markVectorS_su.k1g N L0 (laws_markVectorS_su.k0 N K gv2 gv3)) (.exit 2) (laws_markVectorS_su.sx1_0 av0 gv2 i5 ov10 ov11) = (laws_markVectorS_su.a1_0 N (fun d0 d1 => K (.int .i64 (d0)) [⟨true, .flat gv2 (.ints .u8 d1)⟩]) (fun k4 i5 gv6 => L0 (laws_markVectorS_su.st0 av0 gv2 k4 i5 gv6)) (fun ov12 ov13 => (laws_markVectorS_su.k0 N K gv2 gv3) (.exit 0) (laws_markVectorS_su.sx0_0 gv2 ov12 ov13)) i5 ov10 ov11) := by
  have h := laws_markVectorS_su.a1_0_gen N K L0 (laws_markVectorS_su.k0 N K gv2 gv3) av0 gv2 gv3 i5 ov10 ov11
  rw [laws_markVectorS_su.k0_mix] at h
  exact h
theorem laws_markVectorS_su.b0_gen {ρ : Type} (N : Nat) (K : AV → Heap → Option ρ) (L0 : St → Option ρ) (kv : XE → St → Option ρ) (av0 : Nat) (gv2 : Nat) (gv3 : Nat → Int) (k4 : Int) (i5 : Int) (gv6 : Nat → Int) :
    xcode (E66 N) ents laws_markVectorS_su.kp 1 N (cL (cK (cB (cA (cB laws_markVectorS_su.bd))))) 0 (laws_markVectorS_su.st0 av0 gv2 k4 i5 gv6) (roundK laws_markVectorS_su.kp 1 0 L0 (mixK (laws_markVectorS_su.fin N K gv2 gv3 .ret) kv)) = (laws_markVectorS_su.b0 N (fun d0 d1 => K (.int .i64 (d0)) [⟨true, .flat gv2 (.ints .u8 d1)⟩]) (fun k7 j8 gv9 => xloop (xcode (E66 N) ents laws_markVectorS_su.kp 1 N (cL (cK (cB (cK (cA (cB (cL (cK (cB (cA (cB laws_markVectorS_su.bd))))))))))) 2) laws_markVectorS_su.kp 1 2 N (laws_markVectorS_su.st1 av0 gv2 i5 k7 j8 gv9) (laws_markVectorS_su.k1g N L0 (mixK (laws_markVectorS_su.fin N K gv2 gv3 .ret) kv))) (fun k4 i5 gv6 => L0 (laws_markVectorS_su.st0 av0 gv2 k4 i5 gv6)) (fun ov12 ov13 => kv (.exit 0) (laws_markVectorS_su.sx0_0 gv2 ov12 ov13)) av0 k4 i5 gv6) := by kernel_rfl
theorem laws_markVectorS_su.b0_eq {ρ : Type} (N : Nat) (K : AV → Heap → Option ρ) (L0 : St → Option ρ) (av0 : Nat) (gv2 : Nat) (gv3 : Nat → Int) (k4 : Int) (i5 : Int) (gv6 : Nat → Int) :
    xcode (E66 N) ents laws_markVectorS_su.kp 1 N (cL (cK (cB (cA (cB laws_markVectorS_su.bd))))) 0 (laws_markVectorS_su.st0 av0 gv2 k4 i5 gv6) (roundK laws_markVectorS_su.kp 1 0 L0 (laws_markVectorS_su.k0 N K gv2 gv3)) = (laws_markVectorS_su.b0 N (fun d0 d1 => K (.int .i64 (d0)) [⟨true, .flat gv2 (.ints .u8 d1)⟩]) (fun k7 j8 gv9 => xloop (xcode (E66 N) ents laws_markVectorS_su.kp 1 N (cL (cK (cB (cK (cA (cB (cL (cK (cB (cA (cB laws_markVectorS_su.bd))))))))))) 2) laws_markVectorS_su.kp 1 2 N (laws_markVectorS_su.st1 av0 gv2 i5 k7 j8 gv9) (laws_markVectorS_su.k1g N L0 (laws_markVectorS_su.k0 N K gv2 gv3))) (fun k4 i5 gv6 => L0 (laws_markVectorS_su.st0 av0 gv2 k4 i5 gv6)) (fun ov12 ov13 => (laws_markVectorS_su.k0 N K gv2 gv3) (.exit 0) (laws_markVectorS_su.sx0_0 gv2 ov12 ov13)) av0 k4 i5 gv6) := by
  have h := laws_markVectorS_su.b0_gen N K L0 (laws_markVectorS_su.k0 N K gv2 gv3) av0 gv2 gv3 k4 i5 gv6
  rw [laws_markVectorS_su.k0_mix] at h
  exact h
theorem laws_markVectorS_su.a0_0_eq {ρ : Type} (N : Nat) (K : AV → Heap → Option ρ) (gv2 : Nat) (gv3 : Nat → Int) (ov12 : Int) (ov13 : Nat → Int) :
    (laws_markVectorS_su.k0 N K gv2 gv3) (.exit 0) (laws_markVectorS_su.sx0_0 gv2 ov12 ov13) = (laws_markVectorS_su.a0_0 N (fun d0 d1 => K (.int .i64 (d0)) [⟨true, .flat gv2 (.ints .u8 d1)⟩]) ov12 ov13) := by kernel_rfl
theorem laws_markVectorS_su.l1_eq {ρ : Type} (N : Nat) (K : AV → Heap → Option ρ) (L0 : St → Option ρ) (av0 : Nat) (gv2 : Nat) (gv3 : Nat → Int) (i5 : Int) :
    ∀ (m : Nat) (k7 : Int) (j8 : Int) (gv9 : Nat → Int), xloop (xcode (E66 N) ents laws_markVectorS_su.kp 1 N (cL (cK (cB (cK (cA (cB (cL (cK (cB (cA (cB laws_markVectorS_su.bd))))))))))) 2) laws_markVectorS_su.kp 1 2 m (laws_markVectorS_su.st1 av0 gv2 i5 k7 j8 gv9) (laws_markVectorS_su.k1g N L0 (laws_markVectorS_su.k0 N K gv2 gv3)) = (laws_markVectorS_su.l1 N (fun d0 d1 => K (.int .i64 (d0)) [⟨true, .flat gv2 (.ints .u8 d1)⟩]) av0 i5 (fun ov10 ov11 => (laws_markVectorS_su.k1g N L0 (laws_markVectorS_su.k0 N K gv2 gv3)) (.exit 2) (laws_markVectorS_su.sx1_0 av0 gv2 i5 ov10 ov11)) m k7 j8 gv9) := by
  intro m
  induction m with
  | zero => intros; rfl
  | succ m ih =>
    intro k7 j8 gv9
    refine (laws_markVectorS_su.b1_eq N K L0 (fun s => xloop (xcode (E66 N) ents laws_markVectorS_su.kp 1 N (cL (cK (cB (cK (cA (cB (cL (cK (cB (cA (cB laws_markVectorS_su.bd))))))))))) 2) laws_markVectorS_su.kp 1 2 m s (laws_markVectorS_su.k1g N L0 (laws_markVectorS_su.k0 N K gv2 gv3))) av0 gv2 gv3 i5 k7 j8 gv9).trans ?_
    simp only [ih]
    kernel_rfl
theorem laws_markVectorS_su.l0_eq {ρ : Type} (N : Nat) (K : AV → Heap → Option ρ) (av0 : Nat) (gv2 : Nat) (gv3 : Nat → Int) :
    ∀ (m : Nat) (k4 : Int) (i5 : Int) (gv6 : Nat → Int), xloop (xcode (E66 N) ents laws_markVectorS_su.kp 1 N (cL (cK (cB (cA (cB laws_markVectorS_su.bd))))) 0) laws_markVectorS_su.kp 1 0 m (laws_markVectorS_su.st0 av0 gv2 k4 i5 gv6) (laws_markVectorS_su.k0 N K gv2 gv3) = (laws_markVectorS_su.l0 N (fun d0 d1 => K (.int .i64 (d0)) [⟨true, .flat gv2 (.ints .u8 d1)⟩]) av0 (fun ov12 ov13 => (laws_markVectorS_su.k0 N K gv2 gv3) (.exit 0) (laws_markVectorS_su.sx0_0 gv2 ov12 ov13)) m k4 i5 gv6) := by
  intro m
  induction m with
  | zero => intros; rfl
  | succ m ih =>
    intro k4 i5 gv6
    refine (laws_markVectorS_su.b0_eq N K (fun s => xloop (xcode (E66 N) ents laws_markVectorS_su.kp 1 N (cL (cK (cB (cA (cB laws_markVectorS_su.bd))))) 0) laws_markVectorS_su.kp 1 0 m s (laws_markVectorS_su.k0 N K gv2 gv3)) av0 gv2 gv3 k4 i5 gv6).trans ?_
    simp only [ih, laws_markVectorS_su.l1_eq, laws_markVectorS_su.a1_0_eq]
    kernel_rfl
theorem laws_markVectorS_su.s_eq {ρ : Type} (N : Nat) (K : AV → Heap → Option ρ) (av0 : Nat) (k1 : Int) (gv2 : Nat) (gv3 : Nat → Int) :
    xbody (E66 N) ents laws_markVectorS_su.kp N Try.f46 laws_markVectorS_su.bd [.slice false 0 0 av0 .unk 8, .int .i64 (k1)] [⟨true, .flat gv2 (.ints .u8 gv3)⟩] K = (laws_markVectorS_su.s N (fun d0 d1 => K (.int .i64 (d0)) [⟨true, .flat gv2 (.ints .u8 d1)⟩]) (fun k4 i5 gv6 => xloop (xcode (E66 N) ents laws_markVectorS_su.kp 1 N (cL (cK (cB (cA (cB laws_markVectorS_su.bd))))) 0) laws_markVectorS_su.kp 1 0 N (laws_markVectorS_su.st0 av0 gv2 k4 i5 gv6) (laws_markVectorS_su.k0 N K gv2 gv3)) k1 gv3) := by kernel_rfl
theorem laws_markVectorS_su.eq {ρ : Type} (N : Nat) (K : AV → Heap → Option ρ) (av0 : Nat) (k1 : Int) (gv2 : Nat) (gv3 : Nat → Int) :
    xbody (E66 N) ents laws_markVectorS_su.kp N Try.f46 laws_markVectorS_su.bd [.slice false 0 0 av0 .unk 8, .int .i64 (k1)] [⟨true, .flat gv2 (.ints .u8 gv3)⟩] K = (laws_markVectorS_su N (fun d0 d1 => K (.int .i64 (d0)) [⟨true, .flat gv2 (.ints .u8 d1)⟩]) av0 k1 gv2 gv3) := by
  refine (laws_markVectorS_su.s_eq N K av0 k1 gv2 gv3).trans ?_
  simp only [laws_markVectorS_su.l0_eq, laws_markVectorS_su.a0_0_eq]
  kernel_rfl
def laws_markVectorS_su.en (N : Nat) (ρ : Type) : List AV → Heap → (AV → Heap → Option ρ) → Option ρ
  | [.slice false 0 0 av0 .unk 8, .int .i64 (k1)], [⟨true, .flat gv2 (.ints .u8 gv3)⟩], K => (laws_markVectorS_su N (fun d0 d1 => K (.int .i64 (d0)) [⟨true, .flat gv2 (.ints .u8 d1)⟩]) av0 k1 gv2 gv3)
  | _, _, _ => none
theorem laws_markVectorS_su.en_ok (N : Nat) (hE : EnvOk (E66 N) ents) (ρ : Type) (args : List AV) (sh : Heap) (K : AV → Heap → Option ρ) (r : ρ) (h : laws_markVectorS_su.en N ρ args sh K = some r) : ∃ v sh', K v sh' = some r ∧ FnOk (E66 N).P 46 args sh v sh' := by
  unfold laws_markVectorS_su.en at h
  split at h
  · exact fn_ok hE (kp := laws_markVectorS_su.kp) (N := N) Try.func46 (c := laws_markVectorS_su.bd) (by kernel_rfl) ((laws_markVectorS_su.eq N _ _ _ _ _).trans h)
  · cases h
def E67 (N : Nat) : Env := (E66 N).add 46 (laws_markVectorS_su.en N)
theorem E67_ok (N : Nat) : EnvOk (E67 N) ents := Env.add_ok (E66_ok N) (laws_markVectorS_su.en_ok N (E66_ok N))
def laws_heldVectorS_su.kp : Keeps := ⟨[(0, [0, 1, 5], [], []), (2, [0, 1, 5, 6], [], [])], [(0, [1], [], []), (2, [0, 1, 5], [], [])], []⟩
def laws_heldVectorS_su.bd : Code := bodyOf Try.f47
def laws_heldVectorS_su.fin {ρ : Type} (N : Nat) (K : AV → Heap → Option ρ) (gv2 : Nat) (gv3 : Nat → Int) : XE → St → Option ρ := finK (E67 N) laws_heldVectorS_su.kp.fins Try.f47 [⟨false, .flat gv2 (.ints .u8 gv3)⟩] K
def laws_heldVectorS_su.k0 {ρ : Type} (N : Nat) (K : AV → Heap → Option ρ) (gv2 : Nat) (gv3 : Nat → Int) : XE → St → Option ρ := (blockK laws_heldVectorS_su.kp 1 0 (seqK (xcode (E67 N) ents laws_heldVectorS_su.kp 1 N (cB (cB laws_heldVectorS_su.bd)) 0) (laws_heldVectorS_su.fin N K gv2 gv3)))
theorem laws_heldVectorS_su.k0_mix {ρ : Type} (N : Nat) (K : AV → Heap → Option ρ) (gv2 : Nat) (gv3 : Nat → Int) : mixK (laws_heldVectorS_su.fin N K gv2 gv3 .ret) (laws_heldVectorS_su.k0 N K gv2 gv3) = (laws_heldVectorS_su.k0 N K gv2 gv3) := by
  funext e s; cases e <;> kernel_rfl
def laws_heldVectorS_su.st0 (av0 : Nat) (gv2 : Nat) (gv3 : Nat → Int) (k4 : Int) (i5 : Int) : St := ⟨sl 29 [(0, .slice false 0 0 av0 .unk 8), (1, .int .i64 (k4)), (5, .int .i64 (i5))], [⟨false, .flat gv2 (.ints .u8 gv3)⟩]⟩
def laws_heldVectorS_su.sx0_0 (gv2 : Nat) (gv3 : Nat → Int) (ov9 : Int) : St := ⟨sl 29 [(1, .int .i64 (ov9))], [⟨false, .flat gv2 (.ints .u8 gv3)⟩]⟩
def laws_heldVectorS_su.k1g {ρ : Type} (N : Nat) (L0 : St → Option ρ) (kv : XE → St → Option ρ) : XE → St → Option ρ := (blockK laws_heldVectorS_su.kp 1 2 (blockK laws_heldVectorS_su.kp 1 1 (seqK (xcode (E67 N) ents laws_heldVectorS_su.kp 1 N (cB (cB (cL (cK (cB (cA (cB laws_heldVectorS_su.bd))))))) 0) (roundK laws_heldVectorS_su.kp 1 0 L0 kv))))
theorem laws_heldVectorS_su.k1_mix {ρ : Type} (N : Nat) (K : AV → Heap → Option ρ) (L0 : St → Option ρ) (gv2 : Nat) (gv3 : Nat → Int) : mixK (laws_heldVectorS_su.fin N K gv2 gv3 .ret) (laws_heldVectorS_su.k1g N L0 (laws_heldVectorS_su.k0 N K gv2 gv3)) = (laws_heldVectorS_su.k1g N L0 (laws_heldVectorS_su.k0 N K gv2 gv3)) := by
  funext e s; cases e <;> kernel_rfl
def laws_heldVectorS_su.st1 (av0 : Nat) (gv2 : Nat) (gv3 : Nat → Int) (i5 : Int) (k6 : Int) (j7 : Int) : St := ⟨sl 29 [(0, .slice false 0 0 av0 .unk 8), (1, .int .i64 (k6)), (5, .int .i64 (i5)), (6, .int .i64 (j7))], [⟨false, .flat gv2 (.ints .u8 gv3)⟩]⟩
def laws_heldVectorS_su.sx1_0 (av0 : Nat) (gv2 : Nat) (gv3 : Nat → Int) (i5 : Int) (ov8 : Int) : St := ⟨sl 29 [(0, .slice false 0 0 av0 .unk 8), (1, .int .i64 (ov8)), (5, .int .i64 (i5))], [⟨false, .flat gv2 (.ints .u8 gv3)⟩]⟩
theorem laws_heldVectorS_su.b1_gen {ρ : Type} (N : Nat) (K : AV → Heap → Option ρ) (L1 : St → Option ρ) (kv : XE → St → Option ρ) (av0 : Nat) (gv2 : Nat) (gv3 : Nat → Int) (i5 : Int) (k6 : Int) (j7 : Int) :
    xcode (E67 N) ents laws_heldVectorS_su.kp 1 N (cL (cK (cB (cK (cA (cB (cL (cK (cB (cA (cB laws_heldVectorS_su.bd))))))))))) 2 (laws_heldVectorS_su.st1 av0 gv2 gv3 i5 k6 j7) (roundK laws_heldVectorS_su.kp 1 2 L1 (mixK (laws_heldVectorS_su.fin N K gv2 gv3 .ret) kv)) = (laws_heldVectorS_su.b1 N (fun d0 => K (.int .i64 (d0)) [⟨false, .flat gv2 (.ints .u8 gv3)⟩]) (fun k6 j7 => L1 (laws_heldVectorS_su.st1 av0 gv2 gv3 i5 k6 j7)) (fun ov8 => kv (.exit 2) (laws_heldVectorS_su.sx1_0 av0 gv2 gv3 i5 ov8)) av0 gv3 i5 k6 j7) := by kernel_rfl
theorem laws_heldVectorS_su.b1_eq {ρ : Type} (N : Nat) (K : AV → Heap → Option ρ) (L0 : St → Option ρ) (L1 : St → Option ρ) (av0 : Nat) (gv2 : Nat) (gv3 : Nat → Int) (i5 : Int) (k6 : Int) (j7 : Int) :
    xcode (E67 N) ents laws_heldVectorS_su.kp 1 N (cL (cK (cB (cK (cA (cB (cL (cK (cB (cA (cB laws_heldVectorS_su.bd))))))))))) 2 (laws_heldVectorS_su.st1 av0 gv2 gv3 i5 k6 j7) (roundK laws_heldVectorS_su.kp 1 2 L1 (laws_heldVectorS_su.k1g N L0 (laws_heldVectorS_su.k0 N K gv2 gv3))) = (laws_heldVectorS_su.b1 N (fun d0 => K (.int .i64 (d0)) [⟨false, .flat gv2 (.ints .u8 gv3)⟩]) (fun k6 j7 => L1 (laws_heldVectorS_su.st1 av0 gv2 gv3 i5 k6 j7)) (fun ov8 => (laws_heldVectorS_su.k1g N L0 (laws_heldVectorS_su.k0 N K gv2 gv3)) (.exit 2) (laws_heldVectorS_su.sx1_0 av0 gv2 gv3 i5 ov8)) av0 gv3 i5 k6 j7) := by
  have h := laws_heldVectorS_su.b1_gen N K L1 (laws_heldVectorS_su.k1g N L0 (laws_heldVectorS_su.k0 N K gv2 gv3)) av0 gv2 gv3 i5 k6 j7
  rw [laws_heldVectorS_su.k1_mix] at h
  exact h
theorem laws_heldVectorS_su.a1_0_gen {ρ : Type} (N : Nat) (K : AV → Heap → Option ρ) (L0 : St → Option ρ) (kv : XE → St → Option ρ) (av0 : Nat) (gv2 : Nat) (gv3 : Nat → Int) (i5 : Int) (ov8 : Int) :
    (laws_heldVectorS_su.k1g N L0 (mixK (laws_heldVectorS_su.fin N K gv2 gv3 .ret) kv)) (.exit 2) (laws_heldVectorS_su.sx1_0 av0 gv2 gv3 i5 ov8) = (laws_heldVectorS_su.a1_0 N (fun d0 => K (.int .i64 (d0)) [⟨false, .flat gv2 (.ints .u8 gv3)⟩]) (fun k4 i5 => L0 (laws_heldVectorS_su.st0 av0 gv2 gv3 k4 i5)) (fun ov9 => kv (.exit 0) (laws_heldVectorS_su.sx0_0 gv2 gv3 ov9)) i5 ov8) := by kernel_rfl
theorem laws_heldVectorS_su.a1_0_eq {ρ : Type} (N : Nat) (K : AV → Heap → Option ρ) (L0 : St → Option ρ) (av0 : Nat) (gv2 : Nat) (gv3 : Nat → Int) (i5 : Int) (ov8 : Int) :
    (laws_heldVectorS_su.k1g N L0 (laws_heldVectorS_su.k0 N K gv2 gv3)) (.exit 2) (laws_heldVectorS_su.sx1_0 av0 gv2 gv3 i5 ov8) = (laws_heldVectorS_su.a1_0 N (fun d0 => K (.int .i64 (d0)) [⟨false, .flat gv2 (.ints .u8 gv3)⟩]) (fun k4 i5 => L0 (laws_heldVectorS_su.st0 av0 gv2 gv3 k4 i5)) (fun ov9 => (laws_heldVectorS_su.k0 N K gv2 gv3) (.exit 0) (laws_heldVectorS_su.sx0_0 gv2 gv3 ov9)) i5 ov8) := by
  have h := laws_heldVectorS_su.a1_0_gen N K L0 (laws_heldVectorS_su.k0 N K gv2 gv3) av0 gv2 gv3 i5 ov8
  rw [laws_heldVectorS_su.k0_mix] at h
  exact h
theorem laws_heldVectorS_su.b0_gen {ρ : Type} (N : Nat) (K : AV → Heap → Option ρ) (L0 : St → Option ρ) (kv : XE → St → Option ρ) (av0 : Nat) (gv2 : Nat) (gv3 : Nat → Int) (k4 : Int) (i5 : Int) :
    xcode (E67 N) ents laws_heldVectorS_su.kp 1 N (cL (cK (cB (cA (cB laws_heldVectorS_su.bd))))) 0 (laws_heldVectorS_su.st0 av0 gv2 gv3 k4 i5) (roundK laws_heldVectorS_su.kp 1 0 L0 (mixK (laws_heldVectorS_su.fin N K gv2 gv3 .ret) kv)) = (laws_heldVectorS_su.b0 N (fun d0 => K (.int .i64 (d0)) [⟨false, .flat gv2 (.ints .u8 gv3)⟩]) (fun k6 j7 => xloop (xcode (E67 N) ents laws_heldVectorS_su.kp 1 N (cL (cK (cB (cK (cA (cB (cL (cK (cB (cA (cB laws_heldVectorS_su.bd))))))))))) 2) laws_heldVectorS_su.kp 1 2 N (laws_heldVectorS_su.st1 av0 gv2 gv3 i5 k6 j7) (laws_heldVectorS_su.k1g N L0 (mixK (laws_heldVectorS_su.fin N K gv2 gv3 .ret) kv))) (fun k4 i5 => L0 (laws_heldVectorS_su.st0 av0 gv2 gv3 k4 i5)) (fun ov9 => kv (.exit 0) (laws_heldVectorS_su.sx0_0 gv2 gv3 ov9)) av0 k4 i5) := by kernel_rfl
theorem laws_heldVectorS_su.b0_eq {ρ : Type} (N : Nat) (K : AV → Heap → Option ρ) (L0 : St → Option ρ) (av0 : Nat) (gv2 : Nat) (gv3 : Nat → Int) (k4 : Int) (i5 : Int) :
    xcode (E67 N) ents laws_heldVectorS_su.kp 1 N (cL (cK (cB (cA (cB laws_heldVectorS_su.bd))))) 0 (laws_heldVectorS_su.st0 av0 gv2 gv3 k4 i5) (roundK laws_heldVectorS_su.kp 1 0 L0 (laws_heldVectorS_su.k0 N K gv2 gv3)) = (laws_heldVectorS_su.b0 N (fun d0 => K (.int .i64 (d0)) [⟨false, .flat gv2 (.ints .u8 gv3)⟩]) (fun k6 j7 => xloop (xcode (E67 N) ents laws_heldVectorS_su.kp 1 N (cL (cK (cB (cK (cA (cB (cL (cK (cB (cA (cB laws_heldVectorS_su.bd))))))))))) 2) laws_heldVectorS_su.kp 1 2 N (laws_heldVectorS_su.st1 av0 gv2 gv3 i5 k6 j7) (laws_heldVectorS_su.k1g N L0 (laws_heldVectorS_su.k0 N K gv2 gv3))) (fun k4 i5 => L0 (laws_heldVectorS_su.st0 av0 gv2 gv3 k4 i5)) (fun ov9 => (laws_heldVectorS_su.k0 N K gv2 gv3) (.exit 0) (laws_heldVectorS_su.sx0_0 gv2 gv3 ov9)) av0 k4 i5) := by
  have h := laws_heldVectorS_su.b0_gen N K L0 (laws_heldVectorS_su.k0 N K gv2 gv3) av0 gv2 gv3 k4 i5
  rw [laws_heldVectorS_su.k0_mix] at h
  exact h
theorem laws_heldVectorS_su.a0_0_eq {ρ : Type} (N : Nat) (K : AV → Heap → Option ρ) (gv2 : Nat) (gv3 : Nat → Int) (ov9 : Int) :
    (laws_heldVectorS_su.k0 N K gv2 gv3) (.exit 0) (laws_heldVectorS_su.sx0_0 gv2 gv3 ov9) = (laws_heldVectorS_su.a0_0 N (fun d0 => K (.int .i64 (d0)) [⟨false, .flat gv2 (.ints .u8 gv3)⟩]) ov9) := by kernel_rfl
theorem laws_heldVectorS_su.l1_eq {ρ : Type} (N : Nat) (K : AV → Heap → Option ρ) (L0 : St → Option ρ) (av0 : Nat) (gv2 : Nat) (gv3 : Nat → Int) (i5 : Int) :
    ∀ (m : Nat) (k6 : Int) (j7 : Int), xloop (xcode (E67 N) ents laws_heldVectorS_su.kp 1 N (cL (cK (cB (cK (cA (cB (cL (cK (cB (cA (cB laws_heldVectorS_su.bd))))))))))) 2) laws_heldVectorS_su.kp 1 2 m (laws_heldVectorS_su.st1 av0 gv2 gv3 i5 k6 j7) (laws_heldVectorS_su.k1g N L0 (laws_heldVectorS_su.k0 N K gv2 gv3)) = (laws_heldVectorS_su.l1 N (fun d0 => K (.int .i64 (d0)) [⟨false, .flat gv2 (.ints .u8 gv3)⟩]) av0 gv3 i5 (fun ov8 => (laws_heldVectorS_su.k1g N L0 (laws_heldVectorS_su.k0 N K gv2 gv3)) (.exit 2) (laws_heldVectorS_su.sx1_0 av0 gv2 gv3 i5 ov8)) m k6 j7) := by
  intro m
  induction m with
  | zero => intros; rfl
  | succ m ih =>
    intro k6 j7
    refine (laws_heldVectorS_su.b1_eq N K L0 (fun s => xloop (xcode (E67 N) ents laws_heldVectorS_su.kp 1 N (cL (cK (cB (cK (cA (cB (cL (cK (cB (cA (cB laws_heldVectorS_su.bd))))))))))) 2) laws_heldVectorS_su.kp 1 2 m s (laws_heldVectorS_su.k1g N L0 (laws_heldVectorS_su.k0 N K gv2 gv3))) av0 gv2 gv3 i5 k6 j7).trans ?_
    simp only [ih]
    kernel_rfl
theorem laws_heldVectorS_su.l0_eq {ρ : Type} (N : Nat) (K : AV → Heap → Option ρ) (av0 : Nat) (gv2 : Nat) (gv3 : Nat → Int) :
    ∀ (m : Nat) (k4 : Int) (i5 : Int), xloop (xcode (E67 N) ents laws_heldVectorS_su.kp 1 N (cL (cK (cB (cA (cB laws_heldVectorS_su.bd))))) 0) laws_heldVectorS_su.kp 1 0 m (laws_heldVectorS_su.st0 av0 gv2 gv3 k4 i5) (laws_heldVectorS_su.k0 N K gv2 gv3) = (laws_heldVectorS_su.l0 N (fun d0 => K (.int .i64 (d0)) [⟨false, .flat gv2 (.ints .u8 gv3)⟩]) av0 gv3 (fun ov9 => (laws_heldVectorS_su.k0 N K gv2 gv3) (.exit 0) (laws_heldVectorS_su.sx0_0 gv2 gv3 ov9)) m k4 i5) := by
  intro m
  induction m with
  | zero => intros; rfl
  | succ m ih =>
    intro k4 i5
    refine (laws_heldVectorS_su.b0_eq N K (fun s => xloop (xcode (E67 N) ents laws_heldVectorS_su.kp 1 N (cL (cK (cB (cA (cB laws_heldVectorS_su.bd))))) 0) laws_heldVectorS_su.kp 1 0 m s (laws_heldVectorS_su.k0 N K gv2 gv3)) av0 gv2 gv3 k4 i5).trans ?_
    simp only [ih, laws_heldVectorS_su.l1_eq, laws_heldVectorS_su.a1_0_eq]
    kernel_rfl
theorem laws_heldVectorS_su.s_eq {ρ : Type} (N : Nat) (K : AV → Heap → Option ρ) (av0 : Nat) (k1 : Int) (gv2 : Nat) (gv3 : Nat → Int) :
    xbody (E67 N) ents laws_heldVectorS_su.kp N Try.f47 laws_heldVectorS_su.bd [.slice false 0 0 av0 .unk 8, .int .i64 (k1)] [⟨false, .flat gv2 (.ints .u8 gv3)⟩] K = (laws_heldVectorS_su.s N (fun d0 => K (.int .i64 (d0)) [⟨false, .flat gv2 (.ints .u8 gv3)⟩]) (fun k4 i5 => xloop (xcode (E67 N) ents laws_heldVectorS_su.kp 1 N (cL (cK (cB (cA (cB laws_heldVectorS_su.bd))))) 0) laws_heldVectorS_su.kp 1 0 N (laws_heldVectorS_su.st0 av0 gv2 gv3 k4 i5) (laws_heldVectorS_su.k0 N K gv2 gv3)) k1) := by kernel_rfl
theorem laws_heldVectorS_su.eq {ρ : Type} (N : Nat) (K : AV → Heap → Option ρ) (av0 : Nat) (k1 : Int) (gv2 : Nat) (gv3 : Nat → Int) :
    xbody (E67 N) ents laws_heldVectorS_su.kp N Try.f47 laws_heldVectorS_su.bd [.slice false 0 0 av0 .unk 8, .int .i64 (k1)] [⟨false, .flat gv2 (.ints .u8 gv3)⟩] K = (laws_heldVectorS_su N (fun d0 => K (.int .i64 (d0)) [⟨false, .flat gv2 (.ints .u8 gv3)⟩]) av0 k1 gv2 gv3) := by
  refine (laws_heldVectorS_su.s_eq N K av0 k1 gv2 gv3).trans ?_
  simp only [laws_heldVectorS_su.l0_eq, laws_heldVectorS_su.a0_0_eq]
  kernel_rfl
def laws_heldVectorS_su.en (N : Nat) (ρ : Type) : List AV → Heap → (AV → Heap → Option ρ) → Option ρ
  | [.slice false 0 0 av0 .unk 8, .int .i64 (k1)], [⟨false, .flat gv2 (.ints .u8 gv3)⟩], K => (laws_heldVectorS_su N (fun d0 => K (.int .i64 (d0)) [⟨false, .flat gv2 (.ints .u8 gv3)⟩]) av0 k1 gv2 gv3)
  | _, _, _ => none
theorem laws_heldVectorS_su.en_ok (N : Nat) (hE : EnvOk (E67 N) ents) (ρ : Type) (args : List AV) (sh : Heap) (K : AV → Heap → Option ρ) (r : ρ) (h : laws_heldVectorS_su.en N ρ args sh K = some r) : ∃ v sh', K v sh' = some r ∧ FnOk (E67 N).P 47 args sh v sh' := by
  unfold laws_heldVectorS_su.en at h
  split at h
  · exact fn_ok hE (kp := laws_heldVectorS_su.kp) (N := N) Try.func47 (c := laws_heldVectorS_su.bd) (by kernel_rfl) ((laws_heldVectorS_su.eq N _ _ _ _ _).trans h)
  · cases h
def E68 (N : Nat) : Env := (E67 N).add 47 (laws_heldVectorS_su.en N)
theorem E68_ok (N : Nat) : EnvOk (E68 N) ents := Env.add_ok (E67_ok N) (laws_heldVectorS_su.en_ok N (E67_ok N))
def laws_FnExactCentreOf.kp : Keeps := ⟨[], [], []⟩
def laws_FnExactCentreOf.bd : Code := bodyOf Try.f13
def laws_FnExactCentreOf.fin {ρ : Type} (N : Nat) (K : AV → Heap → Option ρ) : XE → St → Option ρ := finK (E68 N) laws_FnExactCentreOf.kp.fins Try.f13 [] K
theorem laws_FnExactCentreOf.eq {ρ : Type} (N : Nat) (K : AV → Heap → Option ρ) (aA0 : Nat → Int) (aA1 : Nat → Int) :
    xbody (E68 N) ents laws_FnExactCentreOf.kp N Try.f13 laws_FnExactCentreOf.bd [.agg [⟨.i64, 2, aA0⟩, ⟨.u8, 520, aA1⟩]] [] K = (laws_FnExactCentreOf N (fun d0 => K (.bool (d0)) []) aA0 aA1) := by kernel_rfl
def laws_FnExactCentreOf.en (N : Nat) (ρ : Type) : List AV → Heap → (AV → Heap → Option ρ) → Option ρ
  | [.agg [⟨.i64, 2, aA0⟩, ⟨.u8, 520, aA1⟩]], [], K => (laws_FnExactCentreOf N (fun d0 => K (.bool (d0)) []) aA0 aA1)
  | _, _, _ => none
theorem laws_FnExactCentreOf.en_ok (N : Nat) (hE : EnvOk (E68 N) ents) (ρ : Type) (args : List AV) (sh : Heap) (K : AV → Heap → Option ρ) (r : ρ) (h : laws_FnExactCentreOf.en N ρ args sh K = some r) : ∃ v sh', K v sh' = some r ∧ FnOk (E68 N).P 13 args sh v sh' := by
  unfold laws_FnExactCentreOf.en at h
  split at h
  · exact fn_ok hE (kp := laws_FnExactCentreOf.kp) (N := N) Try.func13 (c := laws_FnExactCentreOf.bd) (by kernel_rfl) ((laws_FnExactCentreOf.eq N _ _ _).trans h)
  · cases h
def E69 (N : Nat) : Env := (E68 N).add 13 (laws_FnExactCentreOf.en N)
theorem E69_ok (N : Nat) : EnvOk (E69 N) ents := Env.add_ok (E68_ok N) (laws_FnExactCentreOf.en_ok N (E68_ok N))
end
end Go.Proofs.Ytmjpfchbkolcbaa.H
