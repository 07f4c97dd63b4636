/- The program computes these functions. -/
import Derived.Test.YthecjjnieojjoaaHL0
namespace Go.Proofs.Ythecjjnieojjoaa.H
set_option linter.unusedVariables false
set_option linter.unusedSimpArgs false
open Go Go.RowKit Go.Proofs.Ythecjjnieojjoaa.Hx
set_option linter.unusedVariables false
set_option maxRecDepth 100000
noncomputable def impl_field_plus.kp : Keeps := ⟨[(0, [1, 2, 4, 12, 13], 3)], [(0, [], 3)]⟩

noncomputable def impl_field_plus.bd : Code := bodyOf Go.Proofs.Try.f97

noncomputable def impl_field_plus.fin {ρ : Type} (N : Nat) (K : AV → Heap → Option ρ) (g3 : Nat → Int) : XE → St → Option ρ := finK (E27 N) Go.Proofs.Try.f97 [⟨true, .ints .u8 8 g3⟩] K

noncomputable def impl_field_plus.k0 {ρ : Type} (N : Nat) (K : AV → Heap → Option ρ) (g3 : Nat → Int) : XE → St → Option ρ := (blockK impl_field_plus.kp 1 0 (impl_field_plus.fin N K g3))

theorem impl_field_plus.k0_mix {ρ : Type} (N : Nat) (K : AV → Heap → Option ρ) (g3 : Nat → Int) : mixK (impl_field_plus.fin N K g3 .ret) (impl_field_plus.k0 N K g3) = (impl_field_plus.k0 N K g3) := by
  funext e s; cases e <;> rfl

noncomputable def impl_field_plus.st0 (f0 : Nat → Int) (k1 : Int) (w2 : Nat → Int) (x4 : Int) (g5 : Nat → Int) : St := ⟨sl 35 [(1, .sptr [(0, 8)]), (2, .int .i64 (k1)), (4, .sptr [(1, 2)]), (12, .agg [⟨.u8, 8, w2⟩]), (13, .int .i64 (x4))], [⟨true, .ints .u8 8 g5⟩, ⟨true, .ints .i64 2 f0⟩, ⟨true, .ints .u8 8 w2⟩]⟩

noncomputable def impl_field_plus.sx0_0 (f0 : Nat → Int) (w2 : Nat → Int) (o7 : Nat → Int) : St := ⟨sl 35 [], [⟨true, .ints .u8 8 o7⟩, ⟨true, .ints .i64 2 f0⟩, ⟨true, .ints .u8 8 w2⟩]⟩

theorem impl_field_plus.b0_gen {ρ : Type} (N : Nat) (K : AV → Heap → Option ρ) (L0 : St → Option ρ) (kv : XE → St → Option ρ) (f0 : Nat → Int) (k1 : Int) (w2 : Nat → Int) (g3 : Nat → Int) (x4 : Int) (g5 : Nat → Int) :
    xcode (E27 N) ents impl_field_plus.kp 1 N (cL (cK (cB (cB (cB impl_field_plus.bd))))) 0 (impl_field_plus.st0 f0 k1 w2 x4 g5) (roundK impl_field_plus.kp 1 0 L0 (mixK (impl_field_plus.fin N K g3 .ret) kv)) = (impl_field_plus.b0 N (fun d0 => K (.tup []) [⟨true, .ints .u8 8 d0⟩]) (fun x4 g5 => L0 (impl_field_plus.st0 f0 k1 w2 x4 g5)) (fun o7 => kv (.exit 0) (impl_field_plus.sx0_0 f0 w2 o7)) f0 k1 w2 x4 g5) := by kernel_rfl

theorem impl_field_plus.b0_eq {ρ : Type} (N : Nat) (K : AV → Heap → Option ρ) (L0 : St → Option ρ) (f0 : Nat → Int) (k1 : Int) (w2 : Nat → Int) (g3 : Nat → Int) (x4 : Int) (g5 : Nat → Int) :
    xcode (E27 N) ents impl_field_plus.kp 1 N (cL (cK (cB (cB (cB impl_field_plus.bd))))) 0 (impl_field_plus.st0 f0 k1 w2 x4 g5) (roundK impl_field_plus.kp 1 0 L0 (impl_field_plus.k0 N K g3)) = (impl_field_plus.b0 N (fun d0 => K (.tup []) [⟨true, .ints .u8 8 d0⟩]) (fun x4 g5 => L0 (impl_field_plus.st0 f0 k1 w2 x4 g5)) (fun o7 => (impl_field_plus.k0 N K g3) (.exit 0) (impl_field_plus.sx0_0 f0 w2 o7)) f0 k1 w2 x4 g5) := by
  have h := impl_field_plus.b0_gen N K L0 (impl_field_plus.k0 N K g3) f0 k1 w2 g3 x4 g5
  rw [impl_field_plus.k0_mix] at h
  exact h

theorem impl_field_plus.a0_0_eq {ρ : Type} (N : Nat) (K : AV → Heap → Option ρ) (f0 : Nat → Int) (w2 : Nat → Int) (g3 : Nat → Int) (o7 : Nat → Int) :
    (impl_field_plus.k0 N K g3) (.exit 0) (impl_field_plus.sx0_0 f0 w2 o7) = (impl_field_plus.a0_0 N (fun d0 => K (.tup []) [⟨true, .ints .u8 8 d0⟩]) o7) := by kernel_rfl

theorem impl_field_plus.l0_eq {ρ : Type} (N : Nat) (K : AV → Heap → Option ρ) (f0 : Nat → Int) (k1 : Int) (w2 : Nat → Int) (g3 : Nat → Int) :
    ∀ (m : Nat) (x4 : Int) (g5 : Nat → Int), xloop (xcode (E27 N) ents impl_field_plus.kp 1 N (cL (cK (cB (cB (cB impl_field_plus.bd))))) 0) impl_field_plus.kp 1 0 m (impl_field_plus.st0 f0 k1 w2 x4 g5) (impl_field_plus.k0 N K g3) = (impl_field_plus.l0 N (fun d0 => K (.tup []) [⟨true, .ints .u8 8 d0⟩]) f0 k1 w2 (fun o7 => (impl_field_plus.k0 N K g3) (.exit 0) (impl_field_plus.sx0_0 f0 w2 o7)) m x4 g5) := by
  intro m
  induction m with
  | zero => intros; rfl
  | succ m ih =>
    intro x4 g5
    refine (impl_field_plus.b0_eq N K (fun s => xloop (xcode (E27 N) ents impl_field_plus.kp 1 N (cL (cK (cB (cB (cB impl_field_plus.bd))))) 0) impl_field_plus.kp 1 0 m s (impl_field_plus.k0 N K g3)) f0 k1 w2 g3 x4 g5).trans ?_
    simp only [ih]
    kernel_rfl

theorem impl_field_plus.s_eq {ρ : Type} (N : Nat) (K : AV → Heap → Option ρ) (f0 : Nat → Int) (k1 : Int) (w2 : Nat → Int) (g3 : Nat → Int) :
    xbody (E27 N) ents impl_field_plus.kp N Go.Proofs.Try.f97 impl_field_plus.bd [.agg [⟨.i64, 2, f0⟩], .sptr [(0, 8)], .int .i64 (k1), .agg [⟨.u8, 8, w2⟩]] [⟨true, .ints .u8 8 g3⟩] K = (impl_field_plus.s N (fun d0 => K (.tup []) [⟨true, .ints .u8 8 d0⟩]) (fun x4 g5 => xloop (xcode (E27 N) ents impl_field_plus.kp 1 N (cL (cK (cB (cB (cB impl_field_plus.bd))))) 0) impl_field_plus.kp 1 0 N (impl_field_plus.st0 f0 k1 w2 x4 g5) (impl_field_plus.k0 N K g3)) k1 g3) := by kernel_rfl

theorem impl_field_plus.eq {ρ : Type} (N : Nat) (K : AV → Heap → Option ρ) (f0 : Nat → Int) (k1 : Int) (w2 : Nat → Int) (g3 : Nat → Int) :
    xbody (E27 N) ents impl_field_plus.kp N Go.Proofs.Try.f97 impl_field_plus.bd [.agg [⟨.i64, 2, f0⟩], .sptr [(0, 8)], .int .i64 (k1), .agg [⟨.u8, 8, w2⟩]] [⟨true, .ints .u8 8 g3⟩] K = (impl_field_plus N (fun d0 => K (.tup []) [⟨true, .ints .u8 8 d0⟩]) f0 k1 w2 g3) := by
  refine (impl_field_plus.s_eq N K f0 k1 w2 g3).trans ?_
  simp only [impl_field_plus.l0_eq, impl_field_plus.a0_0_eq]
  kernel_rfl

noncomputable def impl_field_plus.en (N : Nat) (ρ : Type) : List AV → Heap → (AV → Heap → Option ρ) → Option ρ
  | [.agg [⟨.i64, 2, f0⟩], .sptr [(0, 8)], .int .i64 (k1), .agg [⟨.u8, 8, w2⟩]], [⟨true, .ints .u8 8 g3⟩], K => (impl_field_plus N (fun d0 => K (.tup []) [⟨true, .ints .u8 8 d0⟩]) f0 k1 w2 g3)
  | _, _, _ => none

theorem impl_field_plus.en_ok (N : Nat) (hE : EnvOk (E27 N) ents) (ρ : Type) (args : List AV) (sh : Heap) (K : AV → Heap → Option ρ) (r : ρ) (h : impl_field_plus.en N ρ args sh K = some r) : ∃ v sh', K v sh' = some r ∧ FnOk (E27 N).P 97 args sh v sh' := by
  unfold impl_field_plus.en at h
  split at h
  · exact fn_ok hE (kp := impl_field_plus.kp) (N := N) Go.Proofs.Try.func97 (c := impl_field_plus.bd) (by kernel_rfl) ((impl_field_plus.eq N _ _ _ _ _).trans h)
  · cases h

noncomputable def E28 (N : Nat) : Env := (E27 N).add 97 (impl_field_plus.en N)

theorem E28_ok (N : Nat) : EnvOk (E28 N) ents := Env.add_ok (E27_ok N) (impl_field_plus.en_ok N (E27_ok N))

noncomputable def impl_field_dot.kp : Keeps := ⟨[(0, [3, 5, 7, 10, 11], 3)], [(0, [3, 7], 3)]⟩

noncomputable def impl_field_dot.bd : Code := bodyOf Go.Proofs.Try.f65

noncomputable def impl_field_dot.fin {ρ : Type} (N : Nat) (K : AV → Heap → Option ρ) : XE → St → Option ρ := finK (E28 N) Go.Proofs.Try.f65 [] K

noncomputable def impl_field_dot.k0 {ρ : Type} (N : Nat) (K : AV → Heap → Option ρ) : XE → St → Option ρ := (blockK impl_field_dot.kp 0 0 (seqK (xcode (E28 N) ents impl_field_dot.kp 0 N (cB (cB (cB impl_field_dot.bd))) 0) (impl_field_dot.fin N K)))

theorem impl_field_dot.k0_mix {ρ : Type} (N : Nat) (K : AV → Heap → Option ρ) : mixK (impl_field_dot.fin N K .ret) (impl_field_dot.k0 N K) = (impl_field_dot.k0 N K) := by
  funext e s; cases e <;> rfl

noncomputable def impl_field_dot.st0 (f0 : Nat → Int) (v1 : Nat → Int) (w2 : Nat → Int) (out3 : Int) (x4 : Int) : St := ⟨sl 29 [(3, .sptr [(0, 2)]), (5, .sptr [(2, 8)]), (7, .int .i64 (out3)), (10, .agg [⟨.u8, 8, v1⟩]), (11, .int .i64 (x4))], [⟨true, .ints .i64 2 f0⟩, ⟨true, .ints .u8 8 v1⟩, ⟨true, .ints .u8 8 w2⟩]⟩

noncomputable def impl_field_dot.sx0_0 (f0 : Nat → Int) (v1 : Nat → Int) (w2 : Nat → Int) (o5 : Int) : St := ⟨sl 29 [(3, .sptr [(0, 2)]), (7, .int .i64 (o5))], [⟨true, .ints .i64 2 f0⟩, ⟨true, .ints .u8 8 v1⟩, ⟨true, .ints .u8 8 w2⟩]⟩

theorem impl_field_dot.b0_gen {ρ : Type} (N : Nat) (K : AV → Heap → Option ρ) (L0 : St → Option ρ) (kv : XE → St → Option ρ) (f0 : Nat → Int) (v1 : Nat → Int) (w2 : Nat → Int) (out3 : Int) (x4 : Int) :
    xcode (E28 N) ents impl_field_dot.kp 0 N (cL (cK (cB (cA (cB (cB impl_field_dot.bd)))))) 0 (impl_field_dot.st0 f0 v1 w2 out3 x4) (roundK impl_field_dot.kp 0 0 L0 (mixK (impl_field_dot.fin N K .ret) kv)) = (impl_field_dot.b0 N (fun d0 => K (.int .i64 (d0)) []) (fun out3 x4 => L0 (impl_field_dot.st0 f0 v1 w2 out3 x4)) (fun o5 => kv (.exit 0) (impl_field_dot.sx0_0 f0 v1 w2 o5)) v1 w2 out3 x4) := by kernel_rfl

theorem impl_field_dot.b0_eq {ρ : Type} (N : Nat) (K : AV → Heap → Option ρ) (L0 : St → Option ρ) (f0 : Nat → Int) (v1 : Nat → Int) (w2 : Nat → Int) (out3 : Int) (x4 : Int) :
    xcode (E28 N) ents impl_field_dot.kp 0 N (cL (cK (cB (cA (cB (cB impl_field_dot.bd)))))) 0 (impl_field_dot.st0 f0 v1 w2 out3 x4) (roundK impl_field_dot.kp 0 0 L0 (impl_field_dot.k0 N K)) = (impl_field_dot.b0 N (fun d0 => K (.int .i64 (d0)) []) (fun out3 x4 => L0 (impl_field_dot.st0 f0 v1 w2 out3 x4)) (fun o5 => (impl_field_dot.k0 N K) (.exit 0) (impl_field_dot.sx0_0 f0 v1 w2 o5)) v1 w2 out3 x4) := by
  have h := impl_field_dot.b0_gen N K L0 (impl_field_dot.k0 N K) f0 v1 w2 out3 x4
  rw [impl_field_dot.k0_mix] at h
  exact h

theorem impl_field_dot.a0_0_eq {ρ : Type} (N : Nat) (K : AV → Heap → Option ρ) (f0 : Nat → Int) (v1 : Nat → Int) (w2 : Nat → Int) (o5 : Int) :
    (impl_field_dot.k0 N K) (.exit 0) (impl_field_dot.sx0_0 f0 v1 w2 o5) = (impl_field_dot.a0_0 N (fun d0 => K (.int .i64 (d0)) []) f0 o5) := by kernel_rfl

theorem impl_field_dot.l0_eq {ρ : Type} (N : Nat) (K : AV → Heap → Option ρ) (f0 : Nat → Int) (v1 : Nat → Int) (w2 : Nat → Int) :
    ∀ (m : Nat) (out3 : Int) (x4 : Int), xloop (xcode (E28 N) ents impl_field_dot.kp 0 N (cL (cK (cB (cA (cB (cB impl_field_dot.bd)))))) 0) impl_field_dot.kp 0 0 m (impl_field_dot.st0 f0 v1 w2 out3 x4) (impl_field_dot.k0 N K) = (impl_field_dot.l0 N (fun d0 => K (.int .i64 (d0)) []) v1 w2 (fun o5 => (impl_field_dot.k0 N K) (.exit 0) (impl_field_dot.sx0_0 f0 v1 w2 o5)) m out3 x4) := by
  intro m
  induction m with
  | zero => intros; rfl
  | succ m ih =>
    intro out3 x4
    refine (impl_field_dot.b0_eq N K (fun s => xloop (xcode (E28 N) ents impl_field_dot.kp 0 N (cL (cK (cB (cA (cB (cB impl_field_dot.bd)))))) 0) impl_field_dot.kp 0 0 m s (impl_field_dot.k0 N K)) f0 v1 w2 out3 x4).trans ?_
    simp only [ih]
    kernel_rfl

theorem impl_field_dot.s_eq {ρ : Type} (N : Nat) (K : AV → Heap → Option ρ) (f0 : Nat → Int) (v1 : Nat → Int) (w2 : Nat → Int) :
    xbody (E28 N) ents impl_field_dot.kp N Go.Proofs.Try.f65 impl_field_dot.bd [.agg [⟨.i64, 2, f0⟩], .agg [⟨.u8, 8, v1⟩], .agg [⟨.u8, 8, w2⟩]] [] K = (impl_field_dot.s N (fun d0 => K (.int .i64 (d0)) []) (fun out3 x4 => xloop (xcode (E28 N) ents impl_field_dot.kp 0 N (cL (cK (cB (cA (cB (cB impl_field_dot.bd)))))) 0) impl_field_dot.kp 0 0 N (impl_field_dot.st0 f0 v1 w2 out3 x4) (impl_field_dot.k0 N K))) := by kernel_rfl

theorem impl_field_dot.eq {ρ : Type} (N : Nat) (K : AV → Heap → Option ρ) (f0 : Nat → Int) (v1 : Nat → Int) (w2 : Nat → Int) :
    xbody (E28 N) ents impl_field_dot.kp N Go.Proofs.Try.f65 impl_field_dot.bd [.agg [⟨.i64, 2, f0⟩], .agg [⟨.u8, 8, v1⟩], .agg [⟨.u8, 8, w2⟩]] [] K = (impl_field_dot N (fun d0 => K (.int .i64 (d0)) []) f0 v1 w2) := by
  refine (impl_field_dot.s_eq N K f0 v1 w2).trans ?_
  simp only [impl_field_dot.l0_eq, impl_field_dot.a0_0_eq]
  kernel_rfl

noncomputable def impl_field_dot.en (N : Nat) (ρ : Type) : List AV → Heap → (AV → Heap → Option ρ) → Option ρ
  | [.agg [⟨.i64, 2, f0⟩], .agg [⟨.u8, 8, v1⟩], .agg [⟨.u8, 8, w2⟩]], [], K => (impl_field_dot N (fun d0 => K (.int .i64 (d0)) []) f0 v1 w2)
  | _, _, _ => none

theorem impl_field_dot.en_ok (N : Nat) (hE : EnvOk (E28 N) ents) (ρ : Type) (args : List AV) (sh : Heap) (K : AV → Heap → Option ρ) (r : ρ) (h : impl_field_dot.en N ρ args sh K = some r) : ∃ v sh', K v sh' = some r ∧ FnOk (E28 N).P 65 args sh v sh' := by
  unfold impl_field_dot.en at h
  split at h
  · exact fn_ok hE (kp := impl_field_dot.kp) (N := N) Go.Proofs.Try.func65 (c := impl_field_dot.bd) (by kernel_rfl) ((impl_field_dot.eq N _ _ _ _).trans h)
  · cases h

noncomputable def E29 (N : Nat) : Env := (E28 N).add 65 (impl_field_dot.en N)

theorem E29_ok (N : Nat) : EnvOk (E29 N) ents := Env.add_ok (E28_ok N) (impl_field_dot.en_ok N (E28_ok N))

noncomputable def impl_basis.kp : Keeps := ⟨[], []⟩

noncomputable def impl_basis.bd : Code := bodyOf Go.Proofs.Try.f98

noncomputable def impl_basis.fin {ρ : Type} (N : Nat) (K : AV → Heap → Option ρ) : XE → St → Option ρ := finK (E29 N) Go.Proofs.Try.f98 [] K

theorem impl_basis.eq {ρ : Type} (N : Nat) (K : AV → Heap → Option ρ) (i0 : Int) :
    xbody (E29 N) ents impl_basis.kp N Go.Proofs.Try.f98 impl_basis.bd [.int .i64 (i0)] [] K = (impl_basis N (fun d0 => K (.agg [⟨.u8, 8, d0⟩]) []) i0) := by kernel_rfl

noncomputable def impl_basis.en (N : Nat) (ρ : Type) : List AV → Heap → (AV → Heap → Option ρ) → Option ρ
  | [.int .i64 (i0)], [], K => (impl_basis N (fun d0 => K (.agg [⟨.u8, 8, d0⟩]) []) i0)
  | _, _, _ => none

theorem impl_basis.en_ok (N : Nat) (hE : EnvOk (E29 N) ents) (ρ : Type) (args : List AV) (sh : Heap) (K : AV → Heap → Option ρ) (r : ρ) (h : impl_basis.en N ρ args sh K = some r) : ∃ v sh', K v sh' = some r ∧ FnOk (E29 N).P 98 args sh v sh' := by
  unfold impl_basis.en at h
  split at h
  · exact fn_ok hE (kp := impl_basis.kp) (N := N) Go.Proofs.Try.func98 (c := impl_basis.bd) (by kernel_rfl) ((impl_basis.eq N _ _).trans h)
  · cases h

noncomputable def E30 (N : Nat) : Env := (E29 N).add 98 (impl_basis.en N)

theorem E30_ok (N : Nat) : EnvOk (E30 N) ents := Env.add_ok (E29_ok N) (impl_basis.en_ok N (E29_ok N))

noncomputable def impl_Coalgebra_isCounit.kp : Keeps := ⟨[(0, [0, 3, 11, 12], 3), (2, [0, 3, 4, 5, 6, 11, 12, 18, 19], 5)], [(0, [], 3), (2, [0, 3, 4, 5, 6, 11, 12], 5)]⟩

noncomputable def impl_Coalgebra_isCounit.bd : Code := bodyOf Go.Proofs.Try.f56

noncomputable def impl_Coalgebra_isCounit.fin {ρ : Type} (N : Nat) (K : AV → Heap → Option ρ) (g0 : Nat → Int) (g1 : Nat → Int) : XE → St → Option ρ := finK (E30 N) Go.Proofs.Try.f56 [⟨false, .ints .i64 2 g0⟩, ⟨false, .ints .u8 520 g1⟩] K

noncomputable def impl_Coalgebra_isCounit.k0 {ρ : Type} (N : Nat) (K : AV → Heap → Option ρ) (g0 : Nat → Int) (g1 : Nat → Int) : XE → St → Option ρ := (blockK impl_Coalgebra_isCounit.kp 2 0 (seqK (xcode (E30 N) ents impl_Coalgebra_isCounit.kp 2 N (cB (cB (cB impl_Coalgebra_isCounit.bd))) 0) (impl_Coalgebra_isCounit.fin N K g0 g1)))

theorem impl_Coalgebra_isCounit.k0_mix {ρ : Type} (N : Nat) (K : AV → Heap → Option ρ) (g0 : Nat → Int) (g1 : Nat → Int) : mixK (impl_Coalgebra_isCounit.fin N K g0 g1 .ret) (impl_Coalgebra_isCounit.k0 N K g0 g1) = (impl_Coalgebra_isCounit.k0 N K g0 g1) := by
  funext e s; cases e <;> rfl

noncomputable def impl_Coalgebra_isCounit.st0 (g0 : Nat → Int) (g1 : Nat → Int) (r2 : Nat → Int) (x3 : Int) : St := ⟨sl 68 [(0, .sptr [(0, 2), (1, 520)]), (3, .sptr [(2, 2)]), (11, .int .i64 ((r2 1))), (12, .int .i64 (x3))], [⟨false, .ints .i64 2 g0⟩, ⟨false, .ints .u8 520 g1⟩, ⟨true, .ints .i64 2 r2⟩]⟩

noncomputable def impl_Coalgebra_isCounit.sx0_0 (g0 : Nat → Int) (g1 : Nat → Int) (r2 : Nat → Int) : St := ⟨sl 68 [], [⟨false, .ints .i64 2 g0⟩, ⟨false, .ints .u8 520 g1⟩, ⟨true, .ints .i64 2 r2⟩]⟩

noncomputable def impl_Coalgebra_isCounit.k1g {ρ : Type} (N : Nat) (L0 : St → Option ρ) (kv : XE → St → Option ρ) : XE → St → Option ρ := (blockK impl_Coalgebra_isCounit.kp 2 2 (seqK (xcode (E30 N) ents impl_Coalgebra_isCounit.kp 2 N (cB (cB (cB (cK (cA (cB (cB (cL (cK (cB (cA (cB (cB impl_Coalgebra_isCounit.bd))))))))))))) 1) (blockK impl_Coalgebra_isCounit.kp 2 1 (seqK (xcode (E30 N) ents impl_Coalgebra_isCounit.kp 2 N (cB (cB (cB (cL (cK (cB (cA (cB (cB impl_Coalgebra_isCounit.bd))))))))) 0) (roundK impl_Coalgebra_isCounit.kp 2 0 L0 kv)))))

theorem impl_Coalgebra_isCounit.k1_mix {ρ : Type} (N : Nat) (K : AV → Heap → Option ρ) (L0 : St → Option ρ) (g0 : Nat → Int) (g1 : Nat → Int) : mixK (impl_Coalgebra_isCounit.fin N K g0 g1 .ret) (impl_Coalgebra_isCounit.k1g N L0 (impl_Coalgebra_isCounit.k0 N K g0 g1)) = (impl_Coalgebra_isCounit.k1g N L0 (impl_Coalgebra_isCounit.k0 N K g0 g1)) := by
  funext e s; cases e <;> rfl

noncomputable def impl_Coalgebra_isCounit.st1 (g0 : Nat → Int) (g1 : Nat → Int) (r2 : Nat → Int) (x3 : Int) (x4 : Int) (g5 : Nat → Int) (g6 : Nat → Int) : St := ⟨sl 68 [(0, .sptr [(0, 2), (1, 520)]), (3, .sptr [(2, 2)]), (4, .int .i64 (x3)), (5, .sptr [(3, 8)]), (6, .sptr [(4, 8)]), (11, .int .i64 ((r2 1))), (12, .int .i64 (x3)), (18, .int .i64 ((r2 1))), (19, .int .i64 (x4))], [⟨false, .ints .i64 2 g0⟩, ⟨false, .ints .u8 520 g1⟩, ⟨true, .ints .i64 2 r2⟩, ⟨true, .ints .u8 8 g5⟩, ⟨true, .ints .u8 8 g6⟩]⟩

noncomputable def impl_Coalgebra_isCounit.sx1_0 (g0 : Nat → Int) (g1 : Nat → Int) (r2 : Nat → Int) (x3 : Int) (o9 : Nat → Int) (o10 : Nat → Int) : St := ⟨sl 68 [(0, .sptr [(0, 2), (1, 520)]), (3, .sptr [(2, 2)]), (4, .int .i64 (x3)), (5, .sptr [(3, 8)]), (6, .sptr [(4, 8)]), (11, .int .i64 ((r2 1))), (12, .int .i64 (x3))], [⟨false, .ints .i64 2 g0⟩, ⟨false, .ints .u8 520 g1⟩, ⟨true, .ints .i64 2 r2⟩, ⟨true, .ints .u8 8 o9⟩, ⟨true, .ints .u8 8 o10⟩]⟩

theorem impl_Coalgebra_isCounit.b1_gen {ρ : Type} (N : Nat) (K : AV → Heap → Option ρ) (L1 : St → Option ρ) (kv : XE → St → Option ρ) (g0 : Nat → Int) (g1 : Nat → Int) (r2 : Nat → Int) (x3 : Int) (x4 : Int) (g5 : Nat → Int) (g6 : Nat → Int) :
    xcode (E30 N) ents impl_Coalgebra_isCounit.kp 2 N (cL (cK (cB (cA (cB (cB (cK (cA (cB (cB (cL (cK (cB (cA (cB (cB impl_Coalgebra_isCounit.bd)))))))))))))))) 2 (impl_Coalgebra_isCounit.st1 g0 g1 r2 x3 x4 g5 g6) (roundK impl_Coalgebra_isCounit.kp 2 2 L1 (mixK (impl_Coalgebra_isCounit.fin N K g0 g1 .ret) kv)) = (impl_Coalgebra_isCounit.b1 N (fun d0 => K (.bool (d0)) [⟨false, .ints .i64 2 g0⟩, ⟨false, .ints .u8 520 g1⟩]) (fun x4 g5 g6 => L1 (impl_Coalgebra_isCounit.st1 g0 g1 r2 x3 x4 g5 g6)) (fun o9 o10 => kv (.exit 2) (impl_Coalgebra_isCounit.sx1_0 g0 g1 r2 x3 o9 o10)) g1 r2 x3 x4 g5 g6) := by kernel_rfl

theorem impl_Coalgebra_isCounit.b1_eq {ρ : Type} (N : Nat) (K : AV → Heap → Option ρ) (L0 : St → Option ρ) (L1 : St → Option ρ) (g0 : Nat → Int) (g1 : Nat → Int) (r2 : Nat → Int) (x3 : Int) (x4 : Int) (g5 : Nat → Int) (g6 : Nat → Int) :
    xcode (E30 N) ents impl_Coalgebra_isCounit.kp 2 N (cL (cK (cB (cA (cB (cB (cK (cA (cB (cB (cL (cK (cB (cA (cB (cB impl_Coalgebra_isCounit.bd)))))))))))))))) 2 (impl_Coalgebra_isCounit.st1 g0 g1 r2 x3 x4 g5 g6) (roundK impl_Coalgebra_isCounit.kp 2 2 L1 (impl_Coalgebra_isCounit.k1g N L0 (impl_Coalgebra_isCounit.k0 N K g0 g1))) = (impl_Coalgebra_isCounit.b1 N (fun d0 => K (.bool (d0)) [⟨false, .ints .i64 2 g0⟩, ⟨false, .ints .u8 520 g1⟩]) (fun x4 g5 g6 => L1 (impl_Coalgebra_isCounit.st1 g0 g1 r2 x3 x4 g5 g6)) (fun o9 o10 => (impl_Coalgebra_isCounit.k1g N L0 (impl_Coalgebra_isCounit.k0 N K g0 g1)) (.exit 2) (impl_Coalgebra_isCounit.sx1_0 g0 g1 r2 x3 o9 o10)) g1 r2 x3 x4 g5 g6) := by
  have h := impl_Coalgebra_isCounit.b1_gen N K L1 (impl_Coalgebra_isCounit.k1g N L0 (impl_Coalgebra_isCounit.k0 N K g0 g1)) g0 g1 r2 x3 x4 g5 g6
  rw [impl_Coalgebra_isCounit.k1_mix] at h
  exact h

theorem impl_Coalgebra_isCounit.a1_0_gen {ρ : Type} (N : Nat) (K : AV → Heap → Option ρ) (L0 : St → Option ρ) (kv : XE → St → Option ρ) (g0 : Nat → Int) (g1 : Nat → Int) (r2 : Nat → Int) (x3 : Int) (o9 : Nat → Int) (o10 : Nat → Int) :
    (impl_Coalgebra_isCounit.k1g N L0 (mixK (impl_Coalgebra_isCounit.fin N K g0 g1 .ret) kv)) (.exit 2) (impl_Coalgebra_isCounit.sx1_0 g0 g1 r2 x3 o9 o10) = (impl_Coalgebra_isCounit.a1_0 N (fun d0 => K (.bool (d0)) [⟨false, .ints .i64 2 g0⟩, ⟨false, .ints .u8 520 g1⟩]) (fun x3 => L0 (impl_Coalgebra_isCounit.st0 g0 g1 r2 x3)) (kv (.exit 0) (impl_Coalgebra_isCounit.sx0_0 g0 g1 r2)) x3 o9 o10) := by kernel_rfl

theorem impl_Coalgebra_isCounit.a1_0_eq {ρ : Type} (N : Nat) (K : AV → Heap → Option ρ) (L0 : St → Option ρ) (g0 : Nat → Int) (g1 : Nat → Int) (r2 : Nat → Int) (x3 : Int) (o9 : Nat → Int) (o10 : Nat → Int) :
    (impl_Coalgebra_isCounit.k1g N L0 (impl_Coalgebra_isCounit.k0 N K g0 g1)) (.exit 2) (impl_Coalgebra_isCounit.sx1_0 g0 g1 r2 x3 o9 o10) = (impl_Coalgebra_isCounit.a1_0 N (fun d0 => K (.bool (d0)) [⟨false, .ints .i64 2 g0⟩, ⟨false, .ints .u8 520 g1⟩]) (fun x3 => L0 (impl_Coalgebra_isCounit.st0 g0 g1 r2 x3)) ((impl_Coalgebra_isCounit.k0 N K g0 g1) (.exit 0) (impl_Coalgebra_isCounit.sx0_0 g0 g1 r2)) x3 o9 o10) := by
  have h := impl_Coalgebra_isCounit.a1_0_gen N K L0 (impl_Coalgebra_isCounit.k0 N K g0 g1) g0 g1 r2 x3 o9 o10
  rw [impl_Coalgebra_isCounit.k0_mix] at h
  exact h

theorem impl_Coalgebra_isCounit.b0_gen {ρ : Type} (N : Nat) (K : AV → Heap → Option ρ) (L0 : St → Option ρ) (kv : XE → St → Option ρ) (g0 : Nat → Int) (g1 : Nat → Int) (r2 : Nat → Int) (x3 : Int) :
    xcode (E30 N) ents impl_Coalgebra_isCounit.kp 2 N (cL (cK (cB (cA (cB (cB impl_Coalgebra_isCounit.bd)))))) 0 (impl_Coalgebra_isCounit.st0 g0 g1 r2 x3) (roundK impl_Coalgebra_isCounit.kp 2 0 L0 (mixK (impl_Coalgebra_isCounit.fin N K g0 g1 .ret) kv)) = (impl_Coalgebra_isCounit.b0 N (fun d0 => K (.bool (d0)) [⟨false, .ints .i64 2 g0⟩, ⟨false, .ints .u8 520 g1⟩]) (fun x4 g5 g6 => xloop (xcode (E30 N) ents impl_Coalgebra_isCounit.kp 2 N (cL (cK (cB (cA (cB (cB (cK (cA (cB (cB (cL (cK (cB (cA (cB (cB impl_Coalgebra_isCounit.bd)))))))))))))))) 2) impl_Coalgebra_isCounit.kp 2 2 N (impl_Coalgebra_isCounit.st1 g0 g1 r2 x3 x4 g5 g6) (impl_Coalgebra_isCounit.k1g N L0 (mixK (impl_Coalgebra_isCounit.fin N K g0 g1 .ret) kv))) (fun x3 => L0 (impl_Coalgebra_isCounit.st0 g0 g1 r2 x3)) (kv (.exit 0) (impl_Coalgebra_isCounit.sx0_0 g0 g1 r2)) r2 x3) := by kernel_rfl

theorem impl_Coalgebra_isCounit.b0_eq {ρ : Type} (N : Nat) (K : AV → Heap → Option ρ) (L0 : St → Option ρ) (g0 : Nat → Int) (g1 : Nat → Int) (r2 : Nat → Int) (x3 : Int) :
    xcode (E30 N) ents impl_Coalgebra_isCounit.kp 2 N (cL (cK (cB (cA (cB (cB impl_Coalgebra_isCounit.bd)))))) 0 (impl_Coalgebra_isCounit.st0 g0 g1 r2 x3) (roundK impl_Coalgebra_isCounit.kp 2 0 L0 (impl_Coalgebra_isCounit.k0 N K g0 g1)) = (impl_Coalgebra_isCounit.b0 N (fun d0 => K (.bool (d0)) [⟨false, .ints .i64 2 g0⟩, ⟨false, .ints .u8 520 g1⟩]) (fun x4 g5 g6 => xloop (xcode (E30 N) ents impl_Coalgebra_isCounit.kp 2 N (cL (cK (cB (cA (cB (cB (cK (cA (cB (cB (cL (cK (cB (cA (cB (cB impl_Coalgebra_isCounit.bd)))))))))))))))) 2) impl_Coalgebra_isCounit.kp 2 2 N (impl_Coalgebra_isCounit.st1 g0 g1 r2 x3 x4 g5 g6) (impl_Coalgebra_isCounit.k1g N L0 (impl_Coalgebra_isCounit.k0 N K g0 g1))) (fun x3 => L0 (impl_Coalgebra_isCounit.st0 g0 g1 r2 x3)) ((impl_Coalgebra_isCounit.k0 N K g0 g1) (.exit 0) (impl_Coalgebra_isCounit.sx0_0 g0 g1 r2)) r2 x3) := by
  have h := impl_Coalgebra_isCounit.b0_gen N K L0 (impl_Coalgebra_isCounit.k0 N K g0 g1) g0 g1 r2 x3
  rw [impl_Coalgebra_isCounit.k0_mix] at h
  exact h

theorem impl_Coalgebra_isCounit.a0_0_eq {ρ : Type} (N : Nat) (K : AV → Heap → Option ρ) (g0 : Nat → Int) (g1 : Nat → Int) (r2 : Nat → Int) :
    (impl_Coalgebra_isCounit.k0 N K g0 g1) (.exit 0) (impl_Coalgebra_isCounit.sx0_0 g0 g1 r2) = (impl_Coalgebra_isCounit.a0_0 N (fun d0 => K (.bool (d0)) [⟨false, .ints .i64 2 g0⟩, ⟨false, .ints .u8 520 g1⟩])) := by kernel_rfl

theorem impl_Coalgebra_isCounit.l1_eq {ρ : Type} (N : Nat) (K : AV → Heap → Option ρ) (L0 : St → Option ρ) (g0 : Nat → Int) (g1 : Nat → Int) (r2 : Nat → Int) (x3 : Int) :
    ∀ (m : Nat) (x4 : Int) (g5 : Nat → Int) (g6 : Nat → Int), xloop (xcode (E30 N) ents impl_Coalgebra_isCounit.kp 2 N (cL (cK (cB (cA (cB (cB (cK (cA (cB (cB (cL (cK (cB (cA (cB (cB impl_Coalgebra_isCounit.bd)))))))))))))))) 2) impl_Coalgebra_isCounit.kp 2 2 m (impl_Coalgebra_isCounit.st1 g0 g1 r2 x3 x4 g5 g6) (impl_Coalgebra_isCounit.k1g N L0 (impl_Coalgebra_isCounit.k0 N K g0 g1)) = (impl_Coalgebra_isCounit.l1 N (fun d0 => K (.bool (d0)) [⟨false, .ints .i64 2 g0⟩, ⟨false, .ints .u8 520 g1⟩]) g1 r2 x3 (fun o9 o10 => (impl_Coalgebra_isCounit.k1g N L0 (impl_Coalgebra_isCounit.k0 N K g0 g1)) (.exit 2) (impl_Coalgebra_isCounit.sx1_0 g0 g1 r2 x3 o9 o10)) m x4 g5 g6) := by
  intro m
  induction m with
  | zero => intros; rfl
  | succ m ih =>
    intro x4 g5 g6
    refine (impl_Coalgebra_isCounit.b1_eq N K L0 (fun s => xloop (xcode (E30 N) ents impl_Coalgebra_isCounit.kp 2 N (cL (cK (cB (cA (cB (cB (cK (cA (cB (cB (cL (cK (cB (cA (cB (cB impl_Coalgebra_isCounit.bd)))))))))))))))) 2) impl_Coalgebra_isCounit.kp 2 2 m s (impl_Coalgebra_isCounit.k1g N L0 (impl_Coalgebra_isCounit.k0 N K g0 g1))) g0 g1 r2 x3 x4 g5 g6).trans ?_
    simp only [ih]
    kernel_rfl

theorem impl_Coalgebra_isCounit.l0_eq {ρ : Type} (N : Nat) (K : AV → Heap → Option ρ) (g0 : Nat → Int) (g1 : Nat → Int) (r2 : Nat → Int) :
    ∀ (m : Nat) (x3 : Int), xloop (xcode (E30 N) ents impl_Coalgebra_isCounit.kp 2 N (cL (cK (cB (cA (cB (cB impl_Coalgebra_isCounit.bd)))))) 0) impl_Coalgebra_isCounit.kp 2 0 m (impl_Coalgebra_isCounit.st0 g0 g1 r2 x3) (impl_Coalgebra_isCounit.k0 N K g0 g1) = (impl_Coalgebra_isCounit.l0 N (fun d0 => K (.bool (d0)) [⟨false, .ints .i64 2 g0⟩, ⟨false, .ints .u8 520 g1⟩]) g1 r2 ((impl_Coalgebra_isCounit.k0 N K g0 g1) (.exit 0) (impl_Coalgebra_isCounit.sx0_0 g0 g1 r2)) m x3) := by
  intro m
  induction m with
  | zero => intros; rfl
  | succ m ih =>
    intro x3
    refine (impl_Coalgebra_isCounit.b0_eq N K (fun s => xloop (xcode (E30 N) ents impl_Coalgebra_isCounit.kp 2 N (cL (cK (cB (cA (cB (cB impl_Coalgebra_isCounit.bd)))))) 0) impl_Coalgebra_isCounit.kp 2 0 m s (impl_Coalgebra_isCounit.k0 N K g0 g1)) g0 g1 r2 x3).trans ?_
    simp only [ih, impl_Coalgebra_isCounit.l1_eq, impl_Coalgebra_isCounit.a1_0_eq]
    kernel_rfl

theorem impl_Coalgebra_isCounit.s_eq {ρ : Type} (N : Nat) (K : AV → Heap → Option ρ) (g0 : Nat → Int) (g1 : Nat → Int) :
    xbody (E30 N) ents impl_Coalgebra_isCounit.kp N Go.Proofs.Try.f56 impl_Coalgebra_isCounit.bd [.sptr [(0, 2), (1, 520)]] [⟨false, .ints .i64 2 g0⟩, ⟨false, .ints .u8 520 g1⟩] K = (impl_Coalgebra_isCounit.s N (fun d0 => K (.bool (d0)) [⟨false, .ints .i64 2 g0⟩, ⟨false, .ints .u8 520 g1⟩]) (fun r2 x3 => xloop (xcode (E30 N) ents impl_Coalgebra_isCounit.kp 2 N (cL (cK (cB (cA (cB (cB impl_Coalgebra_isCounit.bd)))))) 0) impl_Coalgebra_isCounit.kp 2 0 N (impl_Coalgebra_isCounit.st0 g0 g1 r2 x3) (impl_Coalgebra_isCounit.k0 N K g0 g1)) g0 g1) := by kernel_rfl

theorem impl_Coalgebra_isCounit.eq {ρ : Type} (N : Nat) (K : AV → Heap → Option ρ) (g0 : Nat → Int) (g1 : Nat → Int) :
    xbody (E30 N) ents impl_Coalgebra_isCounit.kp N Go.Proofs.Try.f56 impl_Coalgebra_isCounit.bd [.sptr [(0, 2), (1, 520)]] [⟨false, .ints .i64 2 g0⟩, ⟨false, .ints .u8 520 g1⟩] K = (impl_Coalgebra_isCounit N (fun d0 => K (.bool (d0)) [⟨false, .ints .i64 2 g0⟩, ⟨false, .ints .u8 520 g1⟩]) g0 g1) := by
  refine (impl_Coalgebra_isCounit.s_eq N K g0 g1).trans ?_
  simp only [impl_Coalgebra_isCounit.l0_eq, impl_Coalgebra_isCounit.a0_0_eq]
  kernel_rfl

noncomputable def impl_Coalgebra_isCounit.en (N : Nat) (ρ : Type) : List AV → Heap → (AV → Heap → Option ρ) → Option ρ
  | [.sptr [(0, 2), (1, 520)]], [⟨false, .ints .i64 2 g0⟩, ⟨false, .ints .u8 520 g1⟩], K => (impl_Coalgebra_isCounit N (fun d0 => K (.bool (d0)) [⟨false, .ints .i64 2 g0⟩, ⟨false, .ints .u8 520 g1⟩]) g0 g1)
  | _, _, _ => none

theorem impl_Coalgebra_isCounit.en_ok (N : Nat) (hE : EnvOk (E30 N) ents) (ρ : Type) (args : List AV) (sh : Heap) (K : AV → Heap → Option ρ) (r : ρ) (h : impl_Coalgebra_isCounit.en N ρ args sh K = some r) : ∃ v sh', K v sh' = some r ∧ FnOk (E30 N).P 56 args sh v sh' := by
  unfold impl_Coalgebra_isCounit.en at h
  split at h
  · exact fn_ok hE (kp := impl_Coalgebra_isCounit.kp) (N := N) Go.Proofs.Try.func56 (c := impl_Coalgebra_isCounit.bd) (by kernel_rfl) ((impl_Coalgebra_isCounit.eq N _ _ _).trans h)
  · cases h

noncomputable def E31 (N : Nat) : Env := (E30 N).add 56 (impl_Coalgebra_isCounit.en N)

theorem E31_ok (N : Nat) : EnvOk (E31 N) ents := Env.add_ok (E30_ok N) (impl_Coalgebra_isCounit.en_ok N (E30_ok N))

noncomputable def impl_Coalgebra_isFault.kp : Keeps := ⟨[(0, [0, 1, 2, 3, 4, 11, 12, 13, 18, 19], 3)], [(0, [11, 12, 13], 3)]⟩

noncomputable def impl_Coalgebra_isFault.bd : Code := bodyOf Go.Proofs.Try.f99

noncomputable def impl_Coalgebra_isFault.fin {ρ : Type} (N : Nat) (K : AV → Heap → Option ρ) (g4 : Nat → Int) (g5 : Nat → Int) : XE → St → Option ρ := finK (E31 N) Go.Proofs.Try.f99 [⟨false, .ints .i64 2 g4⟩, ⟨false, .ints .u8 520 g5⟩] K

noncomputable def impl_Coalgebra_isFault.k0 {ρ : Type} (N : Nat) (K : AV → Heap → Option ρ) (g4 : Nat → Int) (g5 : Nat → Int) : XE → St → Option ρ := (blockK impl_Coalgebra_isFault.kp 2 0 (seqK (xcode (E31 N) ents impl_Coalgebra_isFault.kp 2 N (cB (cB (cB impl_Coalgebra_isFault.bd))) 0) (impl_Coalgebra_isFault.fin N K g4 g5)))

theorem impl_Coalgebra_isFault.k0_mix {ρ : Type} (N : Nat) (K : AV → Heap → Option ρ) (g4 : Nat → Int) (g5 : Nat → Int) : mixK (impl_Coalgebra_isFault.fin N K g4 g5 .ret) (impl_Coalgebra_isFault.k0 N K g4 g5) = (impl_Coalgebra_isFault.k0 N K g4 g5) := by
  funext e s; cases e <;> rfl

noncomputable def impl_Coalgebra_isFault.st0 (i0 : Int) (j1 : Int) (k2 : Int) (l3 : Int) (g4 : Nat → Int) (g5 : Nat → Int) (r6 : Nat → Int) (one7 : Int) (two8 : Int) (x9 : Int) : St := ⟨sl 82 [(0, .sptr [(0, 2), (1, 520)]), (1, .int .i64 (i0)), (2, .int .i64 (j1)), (3, .int .i64 (k2)), (4, .int .i64 (l3)), (11, .sptr [(2, 2)]), (12, .int .i64 (one7)), (13, .int .i64 (two8)), (18, .int .i64 ((r6 1))), (19, .int .i64 (x9))], [⟨false, .ints .i64 2 g4⟩, ⟨false, .ints .u8 520 g5⟩, ⟨true, .ints .i64 2 r6⟩]⟩

noncomputable def impl_Coalgebra_isFault.sx0_0 (g4 : Nat → Int) (g5 : Nat → Int) (r6 : Nat → Int) (o10 : Int) (o11 : Int) : St := ⟨sl 82 [(11, .sptr [(2, 2)]), (12, .int .i64 (o10)), (13, .int .i64 (o11))], [⟨false, .ints .i64 2 g4⟩, ⟨false, .ints .u8 520 g5⟩, ⟨true, .ints .i64 2 r6⟩]⟩

theorem impl_Coalgebra_isFault.b0_gen {ρ : Type} (N : Nat) (K : AV → Heap → Option ρ) (L0 : St → Option ρ) (kv : XE → St → Option ρ) (i0 : Int) (j1 : Int) (k2 : Int) (l3 : Int) (g4 : Nat → Int) (g5 : Nat → Int) (r6 : Nat → Int) (one7 : Int) (two8 : Int) (x9 : Int) :
    xcode (E31 N) ents impl_Coalgebra_isFault.kp 2 N (cL (cK (cB (cA (cB (cB impl_Coalgebra_isFault.bd)))))) 0 (impl_Coalgebra_isFault.st0 i0 j1 k2 l3 g4 g5 r6 one7 two8 x9) (roundK impl_Coalgebra_isFault.kp 2 0 L0 (mixK (impl_Coalgebra_isFault.fin N K g4 g5 .ret) kv)) = (impl_Coalgebra_isFault.b0 N (fun d0 => K (.bool (d0)) [⟨false, .ints .i64 2 g4⟩, ⟨false, .ints .u8 520 g5⟩]) (fun one7 two8 x9 => L0 (impl_Coalgebra_isFault.st0 i0 j1 k2 l3 g4 g5 r6 one7 two8 x9)) (fun o10 o11 => kv (.exit 0) (impl_Coalgebra_isFault.sx0_0 g4 g5 r6 o10 o11)) i0 j1 k2 l3 g5 r6 one7 two8 x9) := by kernel_rfl

theorem impl_Coalgebra_isFault.b0_eq {ρ : Type} (N : Nat) (K : AV → Heap → Option ρ) (L0 : St → Option ρ) (i0 : Int) (j1 : Int) (k2 : Int) (l3 : Int) (g4 : Nat → Int) (g5 : Nat → Int) (r6 : Nat → Int) (one7 : Int) (two8 : Int) (x9 : Int) :
    xcode (E31 N) ents impl_Coalgebra_isFault.kp 2 N (cL (cK (cB (cA (cB (cB impl_Coalgebra_isFault.bd)))))) 0 (impl_Coalgebra_isFault.st0 i0 j1 k2 l3 g4 g5 r6 one7 two8 x9) (roundK impl_Coalgebra_isFault.kp 2 0 L0 (impl_Coalgebra_isFault.k0 N K g4 g5)) = (impl_Coalgebra_isFault.b0 N (fun d0 => K (.bool (d0)) [⟨false, .ints .i64 2 g4⟩, ⟨false, .ints .u8 520 g5⟩]) (fun one7 two8 x9 => L0 (impl_Coalgebra_isFault.st0 i0 j1 k2 l3 g4 g5 r6 one7 two8 x9)) (fun o10 o11 => (impl_Coalgebra_isFault.k0 N K g4 g5) (.exit 0) (impl_Coalgebra_isFault.sx0_0 g4 g5 r6 o10 o11)) i0 j1 k2 l3 g5 r6 one7 two8 x9) := by
  have h := impl_Coalgebra_isFault.b0_gen N K L0 (impl_Coalgebra_isFault.k0 N K g4 g5) i0 j1 k2 l3 g4 g5 r6 one7 two8 x9
  rw [impl_Coalgebra_isFault.k0_mix] at h
  exact h

theorem impl_Coalgebra_isFault.a0_0_eq {ρ : Type} (N : Nat) (K : AV → Heap → Option ρ) (g4 : Nat → Int) (g5 : Nat → Int) (r6 : Nat → Int) (o10 : Int) (o11 : Int) :
    (impl_Coalgebra_isFault.k0 N K g4 g5) (.exit 0) (impl_Coalgebra_isFault.sx0_0 g4 g5 r6 o10 o11) = (impl_Coalgebra_isFault.a0_0 N (fun d0 => K (.bool (d0)) [⟨false, .ints .i64 2 g4⟩, ⟨false, .ints .u8 520 g5⟩]) r6 o10 o11) := by kernel_rfl

theorem impl_Coalgebra_isFault.l0_eq {ρ : Type} (N : Nat) (K : AV → Heap → Option ρ) (i0 : Int) (j1 : Int) (k2 : Int) (l3 : Int) (g4 : Nat → Int) (g5 : Nat → Int) (r6 : Nat → Int) :
    ∀ (m : Nat) (one7 : Int) (two8 : Int) (x9 : Int), xloop (xcode (E31 N) ents impl_Coalgebra_isFault.kp 2 N (cL (cK (cB (cA (cB (cB impl_Coalgebra_isFault.bd)))))) 0) impl_Coalgebra_isFault.kp 2 0 m (impl_Coalgebra_isFault.st0 i0 j1 k2 l3 g4 g5 r6 one7 two8 x9) (impl_Coalgebra_isFault.k0 N K g4 g5) = (impl_Coalgebra_isFault.l0 N (fun d0 => K (.bool (d0)) [⟨false, .ints .i64 2 g4⟩, ⟨false, .ints .u8 520 g5⟩]) i0 j1 k2 l3 g5 r6 (fun o10 o11 => (impl_Coalgebra_isFault.k0 N K g4 g5) (.exit 0) (impl_Coalgebra_isFault.sx0_0 g4 g5 r6 o10 o11)) m one7 two8 x9) := by
  intro m
  induction m with
  | zero => intros; rfl
  | succ m ih =>
    intro one7 two8 x9
    refine (impl_Coalgebra_isFault.b0_eq N K (fun s => xloop (xcode (E31 N) ents impl_Coalgebra_isFault.kp 2 N (cL (cK (cB (cA (cB (cB impl_Coalgebra_isFault.bd)))))) 0) impl_Coalgebra_isFault.kp 2 0 m s (impl_Coalgebra_isFault.k0 N K g4 g5)) i0 j1 k2 l3 g4 g5 r6 one7 two8 x9).trans ?_
    simp only [ih]
    kernel_rfl

theorem impl_Coalgebra_isFault.s_eq {ρ : Type} (N : Nat) (K : AV → Heap → Option ρ) (i0 : Int) (j1 : Int) (k2 : Int) (l3 : Int) (g4 : Nat → Int) (g5 : Nat → Int) :
    xbody (E31 N) ents impl_Coalgebra_isFault.kp N Go.Proofs.Try.f99 impl_Coalgebra_isFault.bd [.sptr [(0, 2), (1, 520)], .int .i64 (i0), .int .i64 (j1), .int .i64 (k2), .int .i64 (l3)] [⟨false, .ints .i64 2 g4⟩, ⟨false, .ints .u8 520 g5⟩] K = (impl_Coalgebra_isFault.s N (fun d0 => K (.bool (d0)) [⟨false, .ints .i64 2 g4⟩, ⟨false, .ints .u8 520 g5⟩]) (fun r6 one7 two8 x9 => xloop (xcode (E31 N) ents impl_Coalgebra_isFault.kp 2 N (cL (cK (cB (cA (cB (cB impl_Coalgebra_isFault.bd)))))) 0) impl_Coalgebra_isFault.kp 2 0 N (impl_Coalgebra_isFault.st0 i0 j1 k2 l3 g4 g5 r6 one7 two8 x9) (impl_Coalgebra_isFault.k0 N K g4 g5)) g4 g5) := by kernel_rfl

theorem impl_Coalgebra_isFault.eq {ρ : Type} (N : Nat) (K : AV → Heap → Option ρ) (i0 : Int) (j1 : Int) (k2 : Int) (l3 : Int) (g4 : Nat → Int) (g5 : Nat → Int) :
    xbody (E31 N) ents impl_Coalgebra_isFault.kp N Go.Proofs.Try.f99 impl_Coalgebra_isFault.bd [.sptr [(0, 2), (1, 520)], .int .i64 (i0), .int .i64 (j1), .int .i64 (k2), .int .i64 (l3)] [⟨false, .ints .i64 2 g4⟩, ⟨false, .ints .u8 520 g5⟩] K = (impl_Coalgebra_isFault N (fun d0 => K (.bool (d0)) [⟨false, .ints .i64 2 g4⟩, ⟨false, .ints .u8 520 g5⟩]) i0 j1 k2 l3 g4 g5) := by
  refine (impl_Coalgebra_isFault.s_eq N K i0 j1 k2 l3 g4 g5).trans ?_
  simp only [impl_Coalgebra_isFault.l0_eq, impl_Coalgebra_isFault.a0_0_eq]
  kernel_rfl

noncomputable def impl_Coalgebra_isFault.en (N : Nat) (ρ : Type) : List AV → Heap → (AV → Heap → Option ρ) → Option ρ
  | [.sptr [(0, 2), (1, 520)], .int .i64 (i0), .int .i64 (j1), .int .i64 (k2), .int .i64 (l3)], [⟨false, .ints .i64 2 g4⟩, ⟨false, .ints .u8 520 g5⟩], K => (impl_Coalgebra_isFault N (fun d0 => K (.bool (d0)) [⟨false, .ints .i64 2 g4⟩, ⟨false, .ints .u8 520 g5⟩]) i0 j1 k2 l3 g4 g5)
  | _, _, _ => none

theorem impl_Coalgebra_isFault.en_ok (N : Nat) (hE : EnvOk (E31 N) ents) (ρ : Type) (args : List AV) (sh : Heap) (K : AV → Heap → Option ρ) (r : ρ) (h : impl_Coalgebra_isFault.en N ρ args sh K = some r) : ∃ v sh', K v sh' = some r ∧ FnOk (E31 N).P 99 args sh v sh' := by
  unfold impl_Coalgebra_isFault.en at h
  split at h
  · exact fn_ok hE (kp := impl_Coalgebra_isFault.kp) (N := N) Go.Proofs.Try.func99 (c := impl_Coalgebra_isFault.bd) (by kernel_rfl) ((impl_Coalgebra_isFault.eq N _ _ _ _ _ _ _).trans h)
  · cases h

noncomputable def E32 (N : Nat) : Env := (E31 N).add 99 (impl_Coalgebra_isFault.en N)

theorem E32_ok (N : Nat) : EnvOk (E32 N) ents := Env.add_ok (E31_ok N) (impl_Coalgebra_isFault.en_ok N (E31_ok N))

noncomputable def impl_Coalgebra_fault.kp : Keeps := ⟨[(0, [0, 3, 19, 20], 2)], [(0, [], 2)]⟩

noncomputable def impl_Coalgebra_fault.bd : Code := bodyOf Go.Proofs.Try.f57

noncomputable def impl_Coalgebra_fault.fin {ρ : Type} (N : Nat) (K : AV → Heap → Option ρ) (g0 : Nat → Int) (g1 : Nat → Int) : XE → St → Option ρ := finK (E32 N) Go.Proofs.Try.f57 [⟨false, .ints .i64 2 g0⟩, ⟨false, .ints .u8 520 g1⟩] K

noncomputable def impl_Coalgebra_fault.k0 {ρ : Type} (N : Nat) (K : AV → Heap → Option ρ) (g0 : Nat → Int) (g1 : Nat → Int) : XE → St → Option ρ := (blockK impl_Coalgebra_fault.kp 2 0 (seqK (xcode (E32 N) ents impl_Coalgebra_fault.kp 2 N (cB (cB (cB impl_Coalgebra_fault.bd))) 0) (impl_Coalgebra_fault.fin N K g0 g1)))

theorem impl_Coalgebra_fault.k0_mix {ρ : Type} (N : Nat) (K : AV → Heap → Option ρ) (g0 : Nat → Int) (g1 : Nat → Int) : mixK (impl_Coalgebra_fault.fin N K g0 g1 .ret) (impl_Coalgebra_fault.k0 N K g0 g1) = (impl_Coalgebra_fault.k0 N K g0 g1) := by
  funext e s; cases e <;> rfl

noncomputable def impl_Coalgebra_fault.st0 (g0 : Nat → Int) (g1 : Nat → Int) (x2 : Int) : St := ⟨sl 57 [(0, .sptr [(0, 2), (1, 520)]), (3, .int .i64 ((g0 1))), (19, .int .i64 ((IntKind.i64.wrap ((IntKind.i64.wrap ((IntKind.i64.wrap ((g0 1) * (g0 1))) * (g0 1))) * (g0 1))))), (20, .int .i64 (x2))], [⟨false, .ints .i64 2 g0⟩, ⟨false, .ints .u8 520 g1⟩]⟩

noncomputable def impl_Coalgebra_fault.sx0_0 (g0 : Nat → Int) (g1 : Nat → Int) : St := ⟨sl 57 [], [⟨false, .ints .i64 2 g0⟩, ⟨false, .ints .u8 520 g1⟩]⟩

theorem impl_Coalgebra_fault.b0_gen {ρ : Type} (N : Nat) (K : AV → Heap → Option ρ) (L0 : St → Option ρ) (kv : XE → St → Option ρ) (g0 : Nat → Int) (g1 : Nat → Int) (x2 : Int) :
    xcode (E32 N) ents impl_Coalgebra_fault.kp 2 N (cL (cK (cB (cA (cB (cB impl_Coalgebra_fault.bd)))))) 0 (impl_Coalgebra_fault.st0 g0 g1 x2) (roundK impl_Coalgebra_fault.kp 2 0 L0 (mixK (impl_Coalgebra_fault.fin N K g0 g1 .ret) kv)) = (impl_Coalgebra_fault.b0 N (fun d0 d1 d2 => K (.slice 2 0 d0 (some d1) 1) [⟨false, .ints .i64 2 g0⟩, ⟨false, .ints .u8 520 g1⟩, ⟨true, .ints .i64 4 d2⟩]) (K (.nils) [⟨false, .ints .i64 2 g0⟩, ⟨false, .ints .u8 520 g1⟩]) (fun x2 => L0 (impl_Coalgebra_fault.st0 g0 g1 x2)) (kv (.exit 0) (impl_Coalgebra_fault.sx0_0 g0 g1)) g0 g1 x2) := by kernel_rfl

theorem impl_Coalgebra_fault.b0_eq {ρ : Type} (N : Nat) (K : AV → Heap → Option ρ) (L0 : St → Option ρ) (g0 : Nat → Int) (g1 : Nat → Int) (x2 : Int) :
    xcode (E32 N) ents impl_Coalgebra_fault.kp 2 N (cL (cK (cB (cA (cB (cB impl_Coalgebra_fault.bd)))))) 0 (impl_Coalgebra_fault.st0 g0 g1 x2) (roundK impl_Coalgebra_fault.kp 2 0 L0 (impl_Coalgebra_fault.k0 N K g0 g1)) = (impl_Coalgebra_fault.b0 N (fun d0 d1 d2 => K (.slice 2 0 d0 (some d1) 1) [⟨false, .ints .i64 2 g0⟩, ⟨false, .ints .u8 520 g1⟩, ⟨true, .ints .i64 4 d2⟩]) (K (.nils) [⟨false, .ints .i64 2 g0⟩, ⟨false, .ints .u8 520 g1⟩]) (fun x2 => L0 (impl_Coalgebra_fault.st0 g0 g1 x2)) ((impl_Coalgebra_fault.k0 N K g0 g1) (.exit 0) (impl_Coalgebra_fault.sx0_0 g0 g1)) g0 g1 x2) := by
  have h := impl_Coalgebra_fault.b0_gen N K L0 (impl_Coalgebra_fault.k0 N K g0 g1) g0 g1 x2
  rw [impl_Coalgebra_fault.k0_mix] at h
  exact h

theorem impl_Coalgebra_fault.a0_0_eq {ρ : Type} (N : Nat) (K : AV → Heap → Option ρ) (g0 : Nat → Int) (g1 : Nat → Int) :
    (impl_Coalgebra_fault.k0 N K g0 g1) (.exit 0) (impl_Coalgebra_fault.sx0_0 g0 g1) = (impl_Coalgebra_fault.a0_0 N (fun d0 d1 d2 => K (.slice 2 0 d0 (some d1) 1) [⟨false, .ints .i64 2 g0⟩, ⟨false, .ints .u8 520 g1⟩, ⟨true, .ints .i64 4 d2⟩]) (K (.nils) [⟨false, .ints .i64 2 g0⟩, ⟨false, .ints .u8 520 g1⟩])) := by kernel_rfl

theorem impl_Coalgebra_fault.l0_eq {ρ : Type} (N : Nat) (K : AV → Heap → Option ρ) (g0 : Nat → Int) (g1 : Nat → Int) :
    ∀ (m : Nat) (x2 : Int), xloop (xcode (E32 N) ents impl_Coalgebra_fault.kp 2 N (cL (cK (cB (cA (cB (cB impl_Coalgebra_fault.bd)))))) 0) impl_Coalgebra_fault.kp 2 0 m (impl_Coalgebra_fault.st0 g0 g1 x2) (impl_Coalgebra_fault.k0 N K g0 g1) = (impl_Coalgebra_fault.l0 N (fun d0 d1 d2 => K (.slice 2 0 d0 (some d1) 1) [⟨false, .ints .i64 2 g0⟩, ⟨false, .ints .u8 520 g1⟩, ⟨true, .ints .i64 4 d2⟩]) (K (.nils) [⟨false, .ints .i64 2 g0⟩, ⟨false, .ints .u8 520 g1⟩]) g0 g1 ((impl_Coalgebra_fault.k0 N K g0 g1) (.exit 0) (impl_Coalgebra_fault.sx0_0 g0 g1)) m x2) := by
  intro m
  induction m with
  | zero => intros; rfl
  | succ m ih =>
    intro x2
    refine (impl_Coalgebra_fault.b0_eq N K (fun s => xloop (xcode (E32 N) ents impl_Coalgebra_fault.kp 2 N (cL (cK (cB (cA (cB (cB impl_Coalgebra_fault.bd)))))) 0) impl_Coalgebra_fault.kp 2 0 m s (impl_Coalgebra_fault.k0 N K g0 g1)) g0 g1 x2).trans ?_
    simp only [ih]
    kernel_rfl

theorem impl_Coalgebra_fault.s_eq {ρ : Type} (N : Nat) (K : AV → Heap → Option ρ) (g0 : Nat → Int) (g1 : Nat → Int) :
    xbody (E32 N) ents impl_Coalgebra_fault.kp N Go.Proofs.Try.f57 impl_Coalgebra_fault.bd [.sptr [(0, 2), (1, 520)]] [⟨false, .ints .i64 2 g0⟩, ⟨false, .ints .u8 520 g1⟩] K = (impl_Coalgebra_fault.s N (fun d0 d1 d2 => K (.slice 2 0 d0 (some d1) 1) [⟨false, .ints .i64 2 g0⟩, ⟨false, .ints .u8 520 g1⟩, ⟨true, .ints .i64 4 d2⟩]) (K (.nils) [⟨false, .ints .i64 2 g0⟩, ⟨false, .ints .u8 520 g1⟩]) (fun x2 => xloop (xcode (E32 N) ents impl_Coalgebra_fault.kp 2 N (cL (cK (cB (cA (cB (cB impl_Coalgebra_fault.bd)))))) 0) impl_Coalgebra_fault.kp 2 0 N (impl_Coalgebra_fault.st0 g0 g1 x2) (impl_Coalgebra_fault.k0 N K g0 g1))) := by kernel_rfl

theorem impl_Coalgebra_fault.eq {ρ : Type} (N : Nat) (K : AV → Heap → Option ρ) (g0 : Nat → Int) (g1 : Nat → Int) :
    xbody (E32 N) ents impl_Coalgebra_fault.kp N Go.Proofs.Try.f57 impl_Coalgebra_fault.bd [.sptr [(0, 2), (1, 520)]] [⟨false, .ints .i64 2 g0⟩, ⟨false, .ints .u8 520 g1⟩] K = (impl_Coalgebra_fault N (fun d0 d1 d2 => K (.slice 2 0 d0 (some d1) 1) [⟨false, .ints .i64 2 g0⟩, ⟨false, .ints .u8 520 g1⟩, ⟨true, .ints .i64 4 d2⟩]) (K (.nils) [⟨false, .ints .i64 2 g0⟩, ⟨false, .ints .u8 520 g1⟩]) g0 g1) := by
  refine (impl_Coalgebra_fault.s_eq N K g0 g1).trans ?_
  simp only [impl_Coalgebra_fault.l0_eq, impl_Coalgebra_fault.a0_0_eq]
  kernel_rfl

noncomputable def impl_Coalgebra_fault.en (N : Nat) (ρ : Type) : List AV → Heap → (AV → Heap → Option ρ) → Option ρ
  | [.sptr [(0, 2), (1, 520)]], [⟨false, .ints .i64 2 g0⟩, ⟨false, .ints .u8 520 g1⟩], K => (impl_Coalgebra_fault N (fun d0 d1 d2 => K (.slice 2 0 d0 (some d1) 1) [⟨false, .ints .i64 2 g0⟩, ⟨false, .ints .u8 520 g1⟩, ⟨true, .ints .i64 4 d2⟩]) (K (.nils) [⟨false, .ints .i64 2 g0⟩, ⟨false, .ints .u8 520 g1⟩]) g0 g1)
  | _, _, _ => none

theorem impl_Coalgebra_fault.en_ok (N : Nat) (hE : EnvOk (E32 N) ents) (ρ : Type) (args : List AV) (sh : Heap) (K : AV → Heap → Option ρ) (r : ρ) (h : impl_Coalgebra_fault.en N ρ args sh K = some r) : ∃ v sh', K v sh' = some r ∧ FnOk (E32 N).P 57 args sh v sh' := by
  unfold impl_Coalgebra_fault.en at h
  split at h
  · exact fn_ok hE (kp := impl_Coalgebra_fault.kp) (N := N) Go.Proofs.Try.func57 (c := impl_Coalgebra_fault.bd) (by kernel_rfl) ((impl_Coalgebra_fault.eq N _ _ _).trans h)
  · cases h

noncomputable def E33 (N : Nat) : Env := (E32 N).add 57 (impl_Coalgebra_fault.en N)

theorem E33_ok (N : Nat) : EnvOk (E33 N) ents := Env.add_ok (E32_ok N) (impl_Coalgebra_fault.en_ok N (E32_ok N))

noncomputable def impl_IsCoalgebra.kp : Keeps := ⟨[], []⟩

noncomputable def impl_IsCoalgebra.bd : Code := bodyOf Go.Proofs.Try.f17

noncomputable def impl_IsCoalgebra.fin {ρ : Type} (N : Nat) (K : AV → Heap → Option ρ) : XE → St → Option ρ := finK (E33 N) Go.Proofs.Try.f17 [] K

theorem impl_IsCoalgebra.eq {ρ : Type} (N : Nat) (K : AV → Heap → Option ρ) (c0 : Nat → Int) (c1 : Nat → Int) :
    xbody (E33 N) ents impl_IsCoalgebra.kp N Go.Proofs.Try.f17 impl_IsCoalgebra.bd [.agg [⟨.i64, 2, c0⟩, ⟨.u8, 520, c1⟩]] [] K = (impl_IsCoalgebra N (fun d0 => K (.bool (d0)) []) c0 c1) := by kernel_rfl

noncomputable def impl_IsCoalgebra.en (N : Nat) (ρ : Type) : List AV → Heap → (AV → Heap → Option ρ) → Option ρ
  | [.agg [⟨.i64, 2, c0⟩, ⟨.u8, 520, c1⟩]], [], K => (impl_IsCoalgebra N (fun d0 => K (.bool (d0)) []) c0 c1)
  | _, _, _ => none

theorem impl_IsCoalgebra.en_ok (N : Nat) (hE : EnvOk (E33 N) ents) (ρ : Type) (args : List AV) (sh : Heap) (K : AV → Heap → Option ρ) (r : ρ) (h : impl_IsCoalgebra.en N ρ args sh K = some r) : ∃ v sh', K v sh' = some r ∧ FnOk (E33 N).P 17 args sh v sh' := by
  unfold impl_IsCoalgebra.en at h
  split at h
  · exact fn_ok hE (kp := impl_IsCoalgebra.kp) (N := N) Go.Proofs.Try.func17 (c := impl_IsCoalgebra.bd) (by kernel_rfl) ((impl_IsCoalgebra.eq N _ _ _).trans h)
  · cases h

noncomputable def E34 (N : Nat) : Env := (E33 N).add 17 (impl_IsCoalgebra.en N)

theorem E34_ok (N : Nat) : EnvOk (E34 N) ents := Env.add_ok (E33_ok N) (impl_IsCoalgebra.en_ok N (E33_ok N))

noncomputable def laws_FnExactIsCoalgebra.kp : Keeps := ⟨[], []⟩

noncomputable def laws_FnExactIsCoalgebra.bd : Code := bodyOf Go.Proofs.Try.f3

noncomputable def laws_FnExactIsCoalgebra.fin {ρ : Type} (N : Nat) (K : AV → Heap → Option ρ) : XE → St → Option ρ := finK (E34 N) Go.Proofs.Try.f3 [] K

theorem laws_FnExactIsCoalgebra.eq {ρ : Type} (N : Nat) (K : AV → Heap → Option ρ) (aC0 : Nat → Int) (aC1 : Nat → Int) :
    xbody (E34 N) ents laws_FnExactIsCoalgebra.kp N Go.Proofs.Try.f3 laws_FnExactIsCoalgebra.bd [.agg [⟨.i64, 2, aC0⟩, ⟨.u8, 520, aC1⟩]] [] K = (laws_FnExactIsCoalgebra N (fun d0 => K (.bool (d0)) []) aC0 aC1) := by kernel_rfl

noncomputable def laws_FnExactIsCoalgebra.en (N : Nat) (ρ : Type) : List AV → Heap → (AV → Heap → Option ρ) → Option ρ
  | [.agg [⟨.i64, 2, aC0⟩, ⟨.u8, 520, aC1⟩]], [], K => (laws_FnExactIsCoalgebra N (fun d0 => K (.bool (d0)) []) aC0 aC1)
  | _, _, _ => none

theorem laws_FnExactIsCoalgebra.en_ok (N : Nat) (hE : EnvOk (E34 N) ents) (ρ : Type) (args : List AV) (sh : Heap) (K : AV → Heap → Option ρ) (r : ρ) (h : laws_FnExactIsCoalgebra.en N ρ args sh K = some r) : ∃ v sh', K v sh' = some r ∧ FnOk (E34 N).P 3 args sh v sh' := by
  unfold laws_FnExactIsCoalgebra.en at h
  split at h
  · exact fn_ok hE (kp := laws_FnExactIsCoalgebra.kp) (N := N) Go.Proofs.Try.func3 (c := laws_FnExactIsCoalgebra.bd) (by kernel_rfl) ((laws_FnExactIsCoalgebra.eq N _ _ _).trans h)
  · cases h

noncomputable def E35 (N : Nat) : Env := (E34 N).add 3 (laws_FnExactIsCoalgebra.en N)

theorem E35_ok (N : Nat) : EnvOk (E35 N) ents := Env.add_ok (E34_ok N) (laws_FnExactIsCoalgebra.en_ok N (E34_ok N))

noncomputable def spec_FirstCoFault.kp : Keeps := ⟨[], []⟩

noncomputable def spec_FirstCoFault.bd : Code := bodyOf Go.Proofs.Try.f18

noncomputable def spec_FirstCoFault.fin {ρ : Type} (N : Nat) (K : AV → Heap → Option ρ) : XE → St → Option ρ := finK (E35 N) Go.Proofs.Try.f18 [] K

theorem spec_FirstCoFault.eq {ρ : Type} (N : Nat) (K : AV → Heap → Option ρ) (c0 : Nat → Int) (c1 : Nat → Int) :
    xbody (E35 N) ents spec_FirstCoFault.kp N Go.Proofs.Try.f18 spec_FirstCoFault.bd [.agg [⟨.i64, 2, c0⟩, ⟨.u8, 520, c1⟩]] [] K = (spec_FirstCoFault N (fun d0 => K (.tup [.nils, .int .i64 (d0)]) []) (fun d0 d1 d2 d3 => K (.tup [.slice 0 0 d0 (some d1) 1, .int .i64 (d2)]) [⟨true, .ints .i64 4 d3⟩]) c0 c1) := by kernel_rfl

noncomputable def spec_FirstCoFault.en (N : Nat) (ρ : Type) : List AV → Heap → (AV → Heap → Option ρ) → Option ρ
  | [.agg [⟨.i64, 2, c0⟩, ⟨.u8, 520, c1⟩]], [], K => (spec_FirstCoFault N (fun d0 => K (.tup [.nils, .int .i64 (d0)]) []) (fun d0 d1 d2 d3 => K (.tup [.slice 0 0 d0 (some d1) 1, .int .i64 (d2)]) [⟨true, .ints .i64 4 d3⟩]) c0 c1)
  | _, _, _ => none

theorem spec_FirstCoFault.en_ok (N : Nat) (hE : EnvOk (E35 N) ents) (ρ : Type) (args : List AV) (sh : Heap) (K : AV → Heap → Option ρ) (r : ρ) (h : spec_FirstCoFault.en N ρ args sh K = some r) : ∃ v sh', K v sh' = some r ∧ FnOk (E35 N).P 18 args sh v sh' := by
  unfold spec_FirstCoFault.en at h
  split at h
  · exact fn_ok hE (kp := spec_FirstCoFault.kp) (N := N) Go.Proofs.Try.func18 (c := spec_FirstCoFault.bd) (by kernel_rfl) ((spec_FirstCoFault.eq N _ _ _).trans h)
  · cases h

noncomputable def E36 (N : Nat) : Env := (E35 N).add 18 (spec_FirstCoFault.en N)

theorem E36_ok (N : Nat) : EnvOk (E36 N) ents := Env.add_ok (E35_ok N) (spec_FirstCoFault.en_ok N (E35_ok N))

noncomputable def impl_unless.kp : Keeps := ⟨[], []⟩

noncomputable def impl_unless.bd : Code := bodyOf Go.Proofs.Try.f60

noncomputable def impl_unless.fin {ρ : Type} (N : Nat) (K : AV → Heap → Option ρ) : XE → St → Option ρ := finK (E36 N) Go.Proofs.Try.f60 [] K

theorem impl_unless.eq {ρ : Type} (N : Nat) (K : AV → Heap → Option ρ) (so0 : Bool) (code1 : Int) :
    xbody (E36 N) ents impl_unless.kp N Go.Proofs.Try.f60 impl_unless.bd [.bool (so0), .int .i64 (code1)] [] K = (impl_unless N (fun d0 => K (.int .i64 (d0)) []) so0 code1) := by kernel_rfl

noncomputable def impl_unless.en (N : Nat) (ρ : Type) : List AV → Heap → (AV → Heap → Option ρ) → Option ρ
  | [.bool (so0), .int .i64 (code1)], [], K => (impl_unless N (fun d0 => K (.int .i64 (d0)) []) so0 code1)
  | _, _, _ => none

theorem impl_unless.en_ok (N : Nat) (hE : EnvOk (E36 N) ents) (ρ : Type) (args : List AV) (sh : Heap) (K : AV → Heap → Option ρ) (r : ρ) (h : impl_unless.en N ρ args sh K = some r) : ∃ v sh', K v sh' = some r ∧ FnOk (E36 N).P 60 args sh v sh' := by
  unfold impl_unless.en at h
  split at h
  · exact fn_ok hE (kp := impl_unless.kp) (N := N) Go.Proofs.Try.func60 (c := impl_unless.bd) (by kernel_rfl) ((impl_unless.eq N _ _ _).trans h)
  · cases h

noncomputable def E37 (N : Nat) : Env := (E36 N).add 60 (impl_unless.en N)

theorem E37_ok (N : Nat) : EnvOk (E37 N) ents := Env.add_ok (E36_ok N) (impl_unless.en_ok N (E36_ok N))

noncomputable def impl_FirstCoFault.kp : Keeps := ⟨[], []⟩

noncomputable def impl_FirstCoFault.bd : Code := bodyOf Go.Proofs.Try.f19

noncomputable def impl_FirstCoFault.fin {ρ : Type} (N : Nat) (K : AV → Heap → Option ρ) : XE → St → Option ρ := finK (E37 N) Go.Proofs.Try.f19 [] K

theorem impl_FirstCoFault.eq {ρ : Type} (N : Nat) (K : AV → Heap → Option ρ) (c0 : Nat → Int) (c1 : Nat → Int) :
    xbody (E37 N) ents impl_FirstCoFault.kp N Go.Proofs.Try.f19 impl_FirstCoFault.bd [.agg [⟨.i64, 2, c0⟩, ⟨.u8, 520, c1⟩]] [] K = (impl_FirstCoFault N (fun d0 => K (.tup [.nils, .int .i64 (d0)]) []) (fun d0 d1 d2 d3 => K (.tup [.slice 0 0 d0 (some d1) 1, .int .i64 (d2)]) [⟨true, .ints .i64 4 d3⟩]) c0 c1) := by kernel_rfl

noncomputable def impl_FirstCoFault.en (N : Nat) (ρ : Type) : List AV → Heap → (AV → Heap → Option ρ) → Option ρ
  | [.agg [⟨.i64, 2, c0⟩, ⟨.u8, 520, c1⟩]], [], K => (impl_FirstCoFault N (fun d0 => K (.tup [.nils, .int .i64 (d0)]) []) (fun d0 d1 d2 d3 => K (.tup [.slice 0 0 d0 (some d1) 1, .int .i64 (d2)]) [⟨true, .ints .i64 4 d3⟩]) c0 c1)
  | _, _, _ => none

theorem impl_FirstCoFault.en_ok (N : Nat) (hE : EnvOk (E37 N) ents) (ρ : Type) (args : List AV) (sh : Heap) (K : AV → Heap → Option ρ) (r : ρ) (h : impl_FirstCoFault.en N ρ args sh K = some r) : ∃ v sh', K v sh' = some r ∧ FnOk (E37 N).P 19 args sh v sh' := by
  unfold impl_FirstCoFault.en at h
  split at h
  · exact fn_ok hE (kp := impl_FirstCoFault.kp) (N := N) Go.Proofs.Try.func19 (c := impl_FirstCoFault.bd) (by kernel_rfl) ((impl_FirstCoFault.eq N _ _ _).trans h)
  · cases h

noncomputable def E38 (N : Nat) : Env := (E37 N).add 19 (impl_FirstCoFault.en N)

theorem E38_ok (N : Nat) : EnvOk (E38 N) ents := Env.add_ok (E37_ok N) (impl_FirstCoFault.en_ok N (E37_ok N))

noncomputable def laws_eqInt64S_nn.kp : Keeps := ⟨[(0, [0, 1, 5], 0)], [(0, [], 0)]⟩

noncomputable def laws_eqInt64S_nn.bd : Code := bodyOf Go.Proofs.Try.f20

noncomputable def laws_eqInt64S_nn.fin {ρ : Type} (N : Nat) (K : AV → Heap → Option ρ) : XE → St → Option ρ := finK (E38 N) Go.Proofs.Try.f20 [] K

noncomputable def laws_eqInt64S_nn.k0 {ρ : Type} (N : Nat) (K : AV → Heap → Option ρ) : XE → St → Option ρ := (blockK laws_eqInt64S_nn.kp 0 0 (seqK (xcode (E38 N) ents laws_eqInt64S_nn.kp 0 N (cB (cB (cB laws_eqInt64S_nn.bd))) 0) (laws_eqInt64S_nn.fin N K)))

theorem laws_eqInt64S_nn.k0_mix {ρ : Type} (N : Nat) (K : AV → Heap → Option ρ) : mixK (laws_eqInt64S_nn.fin N K .ret) (laws_eqInt64S_nn.k0 N K) = (laws_eqInt64S_nn.k0 N K) := by
  funext e s; cases e <;> rfl

noncomputable def laws_eqInt64S_nn.st0 : St := ⟨sl 26 [(0, .nils), (1, .nils), (5, .int .i64 0)], []⟩

noncomputable def laws_eqInt64S_nn.sx0_0 : St := ⟨sl 26 [], []⟩

theorem laws_eqInt64S_nn.b0_gen {ρ : Type} (N : Nat) (K : AV → Heap → Option ρ) (L0 : St → Option ρ) (kv : XE → St → Option ρ) :
    xcode (E38 N) ents laws_eqInt64S_nn.kp 0 N (cL (cK (cB (cA (cB (cB laws_eqInt64S_nn.bd)))))) 0 (laws_eqInt64S_nn.st0) (roundK laws_eqInt64S_nn.kp 0 0 L0 (mixK (laws_eqInt64S_nn.fin N K .ret) kv)) = (laws_eqInt64S_nn.b0 N (fun d0 => K (.bool (d0)) []) (L0 (laws_eqInt64S_nn.st0)) (kv (.exit 0) (laws_eqInt64S_nn.sx0_0))) := by kernel_rfl

theorem laws_eqInt64S_nn.b0_eq {ρ : Type} (N : Nat) (K : AV → Heap → Option ρ) (L0 : St → Option ρ) :
    xcode (E38 N) ents laws_eqInt64S_nn.kp 0 N (cL (cK (cB (cA (cB (cB laws_eqInt64S_nn.bd)))))) 0 (laws_eqInt64S_nn.st0) (roundK laws_eqInt64S_nn.kp 0 0 L0 (laws_eqInt64S_nn.k0 N K)) = (laws_eqInt64S_nn.b0 N (fun d0 => K (.bool (d0)) []) (L0 (laws_eqInt64S_nn.st0)) ((laws_eqInt64S_nn.k0 N K) (.exit 0) (laws_eqInt64S_nn.sx0_0))) := by
  have h := laws_eqInt64S_nn.b0_gen N K L0 (laws_eqInt64S_nn.k0 N K) 
  rw [laws_eqInt64S_nn.k0_mix] at h
  exact h

theorem laws_eqInt64S_nn.a0_0_eq {ρ : Type} (N : Nat) (K : AV → Heap → Option ρ) :
    (laws_eqInt64S_nn.k0 N K) (.exit 0) (laws_eqInt64S_nn.sx0_0) = (laws_eqInt64S_nn.a0_0 N (fun d0 => K (.bool (d0)) [])) := by kernel_rfl

theorem laws_eqInt64S_nn.l0_eq {ρ : Type} (N : Nat) (K : AV → Heap → Option ρ) :
    ∀ (m : Nat), xloop (xcode (E38 N) ents laws_eqInt64S_nn.kp 0 N (cL (cK (cB (cA (cB (cB laws_eqInt64S_nn.bd)))))) 0) laws_eqInt64S_nn.kp 0 0 m (laws_eqInt64S_nn.st0) (laws_eqInt64S_nn.k0 N K) = (laws_eqInt64S_nn.l0 N (fun d0 => K (.bool (d0)) []) ((laws_eqInt64S_nn.k0 N K) (.exit 0) (laws_eqInt64S_nn.sx0_0)) m) := by
  intro m
  induction m with
  | zero => intros; rfl
  | succ m ih =>
    refine (laws_eqInt64S_nn.b0_eq N K (fun s => xloop (xcode (E38 N) ents laws_eqInt64S_nn.kp 0 N (cL (cK (cB (cA (cB (cB laws_eqInt64S_nn.bd)))))) 0) laws_eqInt64S_nn.kp 0 0 m s (laws_eqInt64S_nn.k0 N K)) ).trans ?_
    simp only [ih]
    kernel_rfl

theorem laws_eqInt64S_nn.s_eq {ρ : Type} (N : Nat) (K : AV → Heap → Option ρ) :
    xbody (E38 N) ents laws_eqInt64S_nn.kp N Go.Proofs.Try.f20 laws_eqInt64S_nn.bd [.nils, .nils] [] K = (laws_eqInt64S_nn.s N (fun d0 => K (.bool (d0)) []) (xloop (xcode (E38 N) ents laws_eqInt64S_nn.kp 0 N (cL (cK (cB (cA (cB (cB laws_eqInt64S_nn.bd)))))) 0) laws_eqInt64S_nn.kp 0 0 N (laws_eqInt64S_nn.st0) (laws_eqInt64S_nn.k0 N K))) := by kernel_rfl

theorem laws_eqInt64S_nn.eq {ρ : Type} (N : Nat) (K : AV → Heap → Option ρ) :
    xbody (E38 N) ents laws_eqInt64S_nn.kp N Go.Proofs.Try.f20 laws_eqInt64S_nn.bd [.nils, .nils] [] K = (laws_eqInt64S_nn N (fun d0 => K (.bool (d0)) [])) := by
  refine (laws_eqInt64S_nn.s_eq N K ).trans ?_
  simp only [laws_eqInt64S_nn.l0_eq, laws_eqInt64S_nn.a0_0_eq]
  kernel_rfl

noncomputable def laws_eqInt64S_sn.kp : Keeps := ⟨[(0, [0, 1, 5], 1)], [(0, [], 1)]⟩

noncomputable def laws_eqInt64S_sn.bd : Code := bodyOf Go.Proofs.Try.f20

noncomputable def laws_eqInt64S_sn.fin {ρ : Type} (N : Nat) (K : AV → Heap → Option ρ) (g2 : Nat) (g3 : Nat → Int) : XE → St → Option ρ := finK (E38 N) Go.Proofs.Try.f20 [⟨false, .ints .i64 g2 g3⟩] K

noncomputable def laws_eqInt64S_sn.k0 {ρ : Type} (N : Nat) (K : AV → Heap → Option ρ) (g2 : Nat) (g3 : Nat → Int) : XE → St → Option ρ := (blockK laws_eqInt64S_sn.kp 1 0 (seqK (xcode (E38 N) ents laws_eqInt64S_sn.kp 1 N (cB (cB (cB laws_eqInt64S_sn.bd))) 0) (laws_eqInt64S_sn.fin N K g2 g3)))

theorem laws_eqInt64S_sn.k0_mix {ρ : Type} (N : Nat) (K : AV → Heap → Option ρ) (g2 : Nat) (g3 : Nat → Int) : mixK (laws_eqInt64S_sn.fin N K g2 g3 .ret) (laws_eqInt64S_sn.k0 N K g2 g3) = (laws_eqInt64S_sn.k0 N K g2 g3) := by
  funext e s; cases e <;> rfl

noncomputable def laws_eqInt64S_sn.st0 (a0 : Nat) (a1 : Nat) (g2 : Nat) (g3 : Nat → Int) : St := ⟨sl 26 [(0, .slice 0 0 a0 (some a1) 1), (1, .nils), (5, .int .i64 0)], [⟨false, .ints .i64 g2 g3⟩]⟩

noncomputable def laws_eqInt64S_sn.sx0_0 (g2 : Nat) (g3 : Nat → Int) : St := ⟨sl 26 [], [⟨false, .ints .i64 g2 g3⟩]⟩

theorem laws_eqInt64S_sn.b0_gen {ρ : Type} (N : Nat) (K : AV → Heap → Option ρ) (L0 : St → Option ρ) (kv : XE → St → Option ρ) (a0 : Nat) (a1 : Nat) (g2 : Nat) (g3 : Nat → Int) :
    xcode (E38 N) ents laws_eqInt64S_sn.kp 1 N (cL (cK (cB (cA (cB (cB laws_eqInt64S_sn.bd)))))) 0 (laws_eqInt64S_sn.st0 a0 a1 g2 g3) (roundK laws_eqInt64S_sn.kp 1 0 L0 (mixK (laws_eqInt64S_sn.fin N K g2 g3 .ret) kv)) = (laws_eqInt64S_sn.b0 N (fun d0 => K (.bool (d0)) [⟨false, .ints .i64 g2 g3⟩]) (L0 (laws_eqInt64S_sn.st0 a0 a1 g2 g3)) (kv (.exit 0) (laws_eqInt64S_sn.sx0_0 g2 g3)) a0) := by kernel_rfl

theorem laws_eqInt64S_sn.b0_eq {ρ : Type} (N : Nat) (K : AV → Heap → Option ρ) (L0 : St → Option ρ) (a0 : Nat) (a1 : Nat) (g2 : Nat) (g3 : Nat → Int) :
    xcode (E38 N) ents laws_eqInt64S_sn.kp 1 N (cL (cK (cB (cA (cB (cB laws_eqInt64S_sn.bd)))))) 0 (laws_eqInt64S_sn.st0 a0 a1 g2 g3) (roundK laws_eqInt64S_sn.kp 1 0 L0 (laws_eqInt64S_sn.k0 N K g2 g3)) = (laws_eqInt64S_sn.b0 N (fun d0 => K (.bool (d0)) [⟨false, .ints .i64 g2 g3⟩]) (L0 (laws_eqInt64S_sn.st0 a0 a1 g2 g3)) ((laws_eqInt64S_sn.k0 N K g2 g3) (.exit 0) (laws_eqInt64S_sn.sx0_0 g2 g3)) a0) := by
  have h := laws_eqInt64S_sn.b0_gen N K L0 (laws_eqInt64S_sn.k0 N K g2 g3) a0 a1 g2 g3
  rw [laws_eqInt64S_sn.k0_mix] at h
  exact h

theorem laws_eqInt64S_sn.a0_0_eq {ρ : Type} (N : Nat) (K : AV → Heap → Option ρ) (g2 : Nat) (g3 : Nat → Int) :
    (laws_eqInt64S_sn.k0 N K g2 g3) (.exit 0) (laws_eqInt64S_sn.sx0_0 g2 g3) = (laws_eqInt64S_sn.a0_0 N (fun d0 => K (.bool (d0)) [⟨false, .ints .i64 g2 g3⟩])) := by kernel_rfl

theorem laws_eqInt64S_sn.l0_eq {ρ : Type} (N : Nat) (K : AV → Heap → Option ρ) (a0 : Nat) (a1 : Nat) (g2 : Nat) (g3 : Nat → Int) :
    ∀ (m : Nat), xloop (xcode (E38 N) ents laws_eqInt64S_sn.kp 1 N (cL (cK (cB (cA (cB (cB laws_eqInt64S_sn.bd)))))) 0) laws_eqInt64S_sn.kp 1 0 m (laws_eqInt64S_sn.st0 a0 a1 g2 g3) (laws_eqInt64S_sn.k0 N K g2 g3) = (laws_eqInt64S_sn.l0 N (fun d0 => K (.bool (d0)) [⟨false, .ints .i64 g2 g3⟩]) a0 ((laws_eqInt64S_sn.k0 N K g2 g3) (.exit 0) (laws_eqInt64S_sn.sx0_0 g2 g3)) m) := by
  intro m
  induction m with
  | zero => intros; rfl
  | succ m ih =>
    refine (laws_eqInt64S_sn.b0_eq N K (fun s => xloop (xcode (E38 N) ents laws_eqInt64S_sn.kp 1 N (cL (cK (cB (cA (cB (cB laws_eqInt64S_sn.bd)))))) 0) laws_eqInt64S_sn.kp 1 0 m s (laws_eqInt64S_sn.k0 N K g2 g3)) a0 a1 g2 g3).trans ?_
    simp only [ih]
    kernel_rfl

theorem laws_eqInt64S_sn.s_eq {ρ : Type} (N : Nat) (K : AV → Heap → Option ρ) (a0 : Nat) (a1 : Nat) (g2 : Nat) (g3 : Nat → Int) :
    xbody (E38 N) ents laws_eqInt64S_sn.kp N Go.Proofs.Try.f20 laws_eqInt64S_sn.bd [.slice 0 0 a0 (some a1) 1, .nils] [⟨false, .ints .i64 g2 g3⟩] K = (laws_eqInt64S_sn.s N (fun d0 => K (.bool (d0)) [⟨false, .ints .i64 g2 g3⟩]) (xloop (xcode (E38 N) ents laws_eqInt64S_sn.kp 1 N (cL (cK (cB (cA (cB (cB laws_eqInt64S_sn.bd)))))) 0) laws_eqInt64S_sn.kp 1 0 N (laws_eqInt64S_sn.st0 a0 a1 g2 g3) (laws_eqInt64S_sn.k0 N K g2 g3)) a0) := by kernel_rfl

theorem laws_eqInt64S_sn.eq {ρ : Type} (N : Nat) (K : AV → Heap → Option ρ) (a0 : Nat) (a1 : Nat) (g2 : Nat) (g3 : Nat → Int) :
    xbody (E38 N) ents laws_eqInt64S_sn.kp N Go.Proofs.Try.f20 laws_eqInt64S_sn.bd [.slice 0 0 a0 (some a1) 1, .nils] [⟨false, .ints .i64 g2 g3⟩] K = (laws_eqInt64S_sn N (fun d0 => K (.bool (d0)) [⟨false, .ints .i64 g2 g3⟩]) a0 a1 g2 g3) := by
  refine (laws_eqInt64S_sn.s_eq N K a0 a1 g2 g3).trans ?_
  simp only [laws_eqInt64S_sn.l0_eq, laws_eqInt64S_sn.a0_0_eq]
  kernel_rfl

noncomputable def laws_eqInt64S_ns.kp : Keeps := ⟨[(0, [0, 1, 5], 1)], [(0, [], 1)]⟩

noncomputable def laws_eqInt64S_ns.bd : Code := bodyOf Go.Proofs.Try.f20

noncomputable def laws_eqInt64S_ns.fin {ρ : Type} (N : Nat) (K : AV → Heap → Option ρ) (g2 : Nat) (g3 : Nat → Int) : XE → St → Option ρ := finK (E38 N) Go.Proofs.Try.f20 [⟨false, .ints .i64 g2 g3⟩] K

noncomputable def laws_eqInt64S_ns.k0 {ρ : Type} (N : Nat) (K : AV → Heap → Option ρ) (g2 : Nat) (g3 : Nat → Int) : XE → St → Option ρ := (blockK laws_eqInt64S_ns.kp 1 0 (seqK (xcode (E38 N) ents laws_eqInt64S_ns.kp 1 N (cB (cB (cB laws_eqInt64S_ns.bd))) 0) (laws_eqInt64S_ns.fin N K g2 g3)))

theorem laws_eqInt64S_ns.k0_mix {ρ : Type} (N : Nat) (K : AV → Heap → Option ρ) (g2 : Nat) (g3 : Nat → Int) : mixK (laws_eqInt64S_ns.fin N K g2 g3 .ret) (laws_eqInt64S_ns.k0 N K g2 g3) = (laws_eqInt64S_ns.k0 N K g2 g3) := by
  funext e s; cases e <;> rfl

noncomputable def laws_eqInt64S_ns.st0 (b0 : Nat) (b1 : Nat) (g2 : Nat) (g3 : Nat → Int) : St := ⟨sl 26 [(0, .nils), (1, .slice 0 0 b0 (some b1) 1), (5, .int .i64 0)], [⟨false, .ints .i64 g2 g3⟩]⟩

noncomputable def laws_eqInt64S_ns.sx0_0 (g2 : Nat) (g3 : Nat → Int) : St := ⟨sl 26 [], [⟨false, .ints .i64 g2 g3⟩]⟩

theorem laws_eqInt64S_ns.b0_gen {ρ : Type} (N : Nat) (K : AV → Heap → Option ρ) (L0 : St → Option ρ) (kv : XE → St → Option ρ) (b0 : Nat) (b1 : Nat) (g2 : Nat) (g3 : Nat → Int) :
    xcode (E38 N) ents laws_eqInt64S_ns.kp 1 N (cL (cK (cB (cA (cB (cB laws_eqInt64S_ns.bd)))))) 0 (laws_eqInt64S_ns.st0 b0 b1 g2 g3) (roundK laws_eqInt64S_ns.kp 1 0 L0 (mixK (laws_eqInt64S_ns.fin N K g2 g3 .ret) kv)) = (laws_eqInt64S_ns.b0 N (fun d0 => K (.bool (d0)) [⟨false, .ints .i64 g2 g3⟩]) (L0 (laws_eqInt64S_ns.st0 b0 b1 g2 g3)) (kv (.exit 0) (laws_eqInt64S_ns.sx0_0 g2 g3))) := by kernel_rfl

theorem laws_eqInt64S_ns.b0_eq {ρ : Type} (N : Nat) (K : AV → Heap → Option ρ) (L0 : St → Option ρ) (b0 : Nat) (b1 : Nat) (g2 : Nat) (g3 : Nat → Int) :
    xcode (E38 N) ents laws_eqInt64S_ns.kp 1 N (cL (cK (cB (cA (cB (cB laws_eqInt64S_ns.bd)))))) 0 (laws_eqInt64S_ns.st0 b0 b1 g2 g3) (roundK laws_eqInt64S_ns.kp 1 0 L0 (laws_eqInt64S_ns.k0 N K g2 g3)) = (laws_eqInt64S_ns.b0 N (fun d0 => K (.bool (d0)) [⟨false, .ints .i64 g2 g3⟩]) (L0 (laws_eqInt64S_ns.st0 b0 b1 g2 g3)) ((laws_eqInt64S_ns.k0 N K g2 g3) (.exit 0) (laws_eqInt64S_ns.sx0_0 g2 g3))) := by
  have h := laws_eqInt64S_ns.b0_gen N K L0 (laws_eqInt64S_ns.k0 N K g2 g3) b0 b1 g2 g3
  rw [laws_eqInt64S_ns.k0_mix] at h
  exact h

theorem laws_eqInt64S_ns.a0_0_eq {ρ : Type} (N : Nat) (K : AV → Heap → Option ρ) (g2 : Nat) (g3 : Nat → Int) :
    (laws_eqInt64S_ns.k0 N K g2 g3) (.exit 0) (laws_eqInt64S_ns.sx0_0 g2 g3) = (laws_eqInt64S_ns.a0_0 N (fun d0 => K (.bool (d0)) [⟨false, .ints .i64 g2 g3⟩])) := by kernel_rfl

theorem laws_eqInt64S_ns.l0_eq {ρ : Type} (N : Nat) (K : AV → Heap → Option ρ) (b0 : Nat) (b1 : Nat) (g2 : Nat) (g3 : Nat → Int) :
    ∀ (m : Nat), xloop (xcode (E38 N) ents laws_eqInt64S_ns.kp 1 N (cL (cK (cB (cA (cB (cB laws_eqInt64S_ns.bd)))))) 0) laws_eqInt64S_ns.kp 1 0 m (laws_eqInt64S_ns.st0 b0 b1 g2 g3) (laws_eqInt64S_ns.k0 N K g2 g3) = (laws_eqInt64S_ns.l0 N (fun d0 => K (.bool (d0)) [⟨false, .ints .i64 g2 g3⟩]) ((laws_eqInt64S_ns.k0 N K g2 g3) (.exit 0) (laws_eqInt64S_ns.sx0_0 g2 g3)) m) := by
  intro m
  induction m with
  | zero => intros; rfl
  | succ m ih =>
    refine (laws_eqInt64S_ns.b0_eq N K (fun s => xloop (xcode (E38 N) ents laws_eqInt64S_ns.kp 1 N (cL (cK (cB (cA (cB (cB laws_eqInt64S_ns.bd)))))) 0) laws_eqInt64S_ns.kp 1 0 m s (laws_eqInt64S_ns.k0 N K g2 g3)) b0 b1 g2 g3).trans ?_
    simp only [ih]
    kernel_rfl

theorem laws_eqInt64S_ns.s_eq {ρ : Type} (N : Nat) (K : AV → Heap → Option ρ) (b0 : Nat) (b1 : Nat) (g2 : Nat) (g3 : Nat → Int) :
    xbody (E38 N) ents laws_eqInt64S_ns.kp N Go.Proofs.Try.f20 laws_eqInt64S_ns.bd [.nils, .slice 0 0 b0 (some b1) 1] [⟨false, .ints .i64 g2 g3⟩] K = (laws_eqInt64S_ns.s N (fun d0 => K (.bool (d0)) [⟨false, .ints .i64 g2 g3⟩]) (xloop (xcode (E38 N) ents laws_eqInt64S_ns.kp 1 N (cL (cK (cB (cA (cB (cB laws_eqInt64S_ns.bd)))))) 0) laws_eqInt64S_ns.kp 1 0 N (laws_eqInt64S_ns.st0 b0 b1 g2 g3) (laws_eqInt64S_ns.k0 N K g2 g3)) b0) := by kernel_rfl

theorem laws_eqInt64S_ns.eq {ρ : Type} (N : Nat) (K : AV → Heap → Option ρ) (b0 : Nat) (b1 : Nat) (g2 : Nat) (g3 : Nat → Int) :
    xbody (E38 N) ents laws_eqInt64S_ns.kp N Go.Proofs.Try.f20 laws_eqInt64S_ns.bd [.nils, .slice 0 0 b0 (some b1) 1] [⟨false, .ints .i64 g2 g3⟩] K = (laws_eqInt64S_ns N (fun d0 => K (.bool (d0)) [⟨false, .ints .i64 g2 g3⟩]) b0 b1 g2 g3) := by
  refine (laws_eqInt64S_ns.s_eq N K b0 b1 g2 g3).trans ?_
  simp only [laws_eqInt64S_ns.l0_eq, laws_eqInt64S_ns.a0_0_eq]
  kernel_rfl

noncomputable def laws_eqInt64S_ss.kp : Keeps := ⟨[(0, [0, 1, 5], 2)], [(0, [], 2)]⟩

noncomputable def laws_eqInt64S_ss.bd : Code := bodyOf Go.Proofs.Try.f20

noncomputable def laws_eqInt64S_ss.fin {ρ : Type} (N : Nat) (K : AV → Heap → Option ρ) (g4 : Nat) (g5 : Nat → Int) (g6 : Nat) (g7 : Nat → Int) : XE → St → Option ρ := finK (E38 N) Go.Proofs.Try.f20 [⟨false, .ints .i64 g4 g5⟩, ⟨false, .ints .i64 g6 g7⟩] K

noncomputable def laws_eqInt64S_ss.k0 {ρ : Type} (N : Nat) (K : AV → Heap → Option ρ) (g4 : Nat) (g5 : Nat → Int) (g6 : Nat) (g7 : Nat → Int) : XE → St → Option ρ := (blockK laws_eqInt64S_ss.kp 2 0 (seqK (xcode (E38 N) ents laws_eqInt64S_ss.kp 2 N (cB (cB (cB laws_eqInt64S_ss.bd))) 0) (laws_eqInt64S_ss.fin N K g4 g5 g6 g7)))

theorem laws_eqInt64S_ss.k0_mix {ρ : Type} (N : Nat) (K : AV → Heap → Option ρ) (g4 : Nat) (g5 : Nat → Int) (g6 : Nat) (g7 : Nat → Int) : mixK (laws_eqInt64S_ss.fin N K g4 g5 g6 g7 .ret) (laws_eqInt64S_ss.k0 N K g4 g5 g6 g7) = (laws_eqInt64S_ss.k0 N K g4 g5 g6 g7) := by
  funext e s; cases e <;> rfl

noncomputable def laws_eqInt64S_ss.st0 (a0 : Nat) (a1 : Nat) (b2 : Nat) (b3 : Nat) (g4 : Nat) (g5 : Nat → Int) (g6 : Nat) (g7 : Nat → Int) (i8 : Int) : St := ⟨sl 26 [(0, .slice 0 0 a0 (some a1) 1), (1, .slice 1 0 b2 (some b3) 1), (5, .int .i64 (i8))], [⟨false, .ints .i64 g4 g5⟩, ⟨false, .ints .i64 g6 g7⟩]⟩

noncomputable def laws_eqInt64S_ss.sx0_0 (g4 : Nat) (g5 : Nat → Int) (g6 : Nat) (g7 : Nat → Int) : St := ⟨sl 26 [], [⟨false, .ints .i64 g4 g5⟩, ⟨false, .ints .i64 g6 g7⟩]⟩

theorem laws_eqInt64S_ss.b0_gen {ρ : Type} (N : Nat) (K : AV → Heap → Option ρ) (L0 : St → Option ρ) (kv : XE → St → Option ρ) (a0 : Nat) (a1 : Nat) (b2 : Nat) (b3 : Nat) (g4 : Nat) (g5 : Nat → Int) (g6 : Nat) (g7 : Nat → Int) (i8 : Int) :
    xcode (E38 N) ents laws_eqInt64S_ss.kp 2 N (cL (cK (cB (cA (cB (cB laws_eqInt64S_ss.bd)))))) 0 (laws_eqInt64S_ss.st0 a0 a1 b2 b3 g4 g5 g6 g7 i8) (roundK laws_eqInt64S_ss.kp 2 0 L0 (mixK (laws_eqInt64S_ss.fin N K g4 g5 g6 g7 .ret) kv)) = (laws_eqInt64S_ss.b0 N (fun d0 => K (.bool (d0)) [⟨false, .ints .i64 g4 g5⟩, ⟨false, .ints .i64 g6 g7⟩]) (fun i8 => L0 (laws_eqInt64S_ss.st0 a0 a1 b2 b3 g4 g5 g6 g7 i8)) (kv (.exit 0) (laws_eqInt64S_ss.sx0_0 g4 g5 g6 g7)) a0 b2 g5 g7 i8) := by kernel_rfl

theorem laws_eqInt64S_ss.b0_eq {ρ : Type} (N : Nat) (K : AV → Heap → Option ρ) (L0 : St → Option ρ) (a0 : Nat) (a1 : Nat) (b2 : Nat) (b3 : Nat) (g4 : Nat) (g5 : Nat → Int) (g6 : Nat) (g7 : Nat → Int) (i8 : Int) :
    xcode (E38 N) ents laws_eqInt64S_ss.kp 2 N (cL (cK (cB (cA (cB (cB laws_eqInt64S_ss.bd)))))) 0 (laws_eqInt64S_ss.st0 a0 a1 b2 b3 g4 g5 g6 g7 i8) (roundK laws_eqInt64S_ss.kp 2 0 L0 (laws_eqInt64S_ss.k0 N K g4 g5 g6 g7)) = (laws_eqInt64S_ss.b0 N (fun d0 => K (.bool (d0)) [⟨false, .ints .i64 g4 g5⟩, ⟨false, .ints .i64 g6 g7⟩]) (fun i8 => L0 (laws_eqInt64S_ss.st0 a0 a1 b2 b3 g4 g5 g6 g7 i8)) ((laws_eqInt64S_ss.k0 N K g4 g5 g6 g7) (.exit 0) (laws_eqInt64S_ss.sx0_0 g4 g5 g6 g7)) a0 b2 g5 g7 i8) := by
  have h := laws_eqInt64S_ss.b0_gen N K L0 (laws_eqInt64S_ss.k0 N K g4 g5 g6 g7) a0 a1 b2 b3 g4 g5 g6 g7 i8
  rw [laws_eqInt64S_ss.k0_mix] at h
  exact h

theorem laws_eqInt64S_ss.a0_0_eq {ρ : Type} (N : Nat) (K : AV → Heap → Option ρ) (g4 : Nat) (g5 : Nat → Int) (g6 : Nat) (g7 : Nat → Int) :
    (laws_eqInt64S_ss.k0 N K g4 g5 g6 g7) (.exit 0) (laws_eqInt64S_ss.sx0_0 g4 g5 g6 g7) = (laws_eqInt64S_ss.a0_0 N (fun d0 => K (.bool (d0)) [⟨false, .ints .i64 g4 g5⟩, ⟨false, .ints .i64 g6 g7⟩])) := by kernel_rfl

theorem laws_eqInt64S_ss.l0_eq {ρ : Type} (N : Nat) (K : AV → Heap → Option ρ) (a0 : Nat) (a1 : Nat) (b2 : Nat) (b3 : Nat) (g4 : Nat) (g5 : Nat → Int) (g6 : Nat) (g7 : Nat → Int) :
    ∀ (m : Nat) (i8 : Int), xloop (xcode (E38 N) ents laws_eqInt64S_ss.kp 2 N (cL (cK (cB (cA (cB (cB laws_eqInt64S_ss.bd)))))) 0) laws_eqInt64S_ss.kp 2 0 m (laws_eqInt64S_ss.st0 a0 a1 b2 b3 g4 g5 g6 g7 i8) (laws_eqInt64S_ss.k0 N K g4 g5 g6 g7) = (laws_eqInt64S_ss.l0 N (fun d0 => K (.bool (d0)) [⟨false, .ints .i64 g4 g5⟩, ⟨false, .ints .i64 g6 g7⟩]) a0 b2 g5 g7 ((laws_eqInt64S_ss.k0 N K g4 g5 g6 g7) (.exit 0) (laws_eqInt64S_ss.sx0_0 g4 g5 g6 g7)) m i8) := by
  intro m
  induction m with
  | zero => intros; rfl
  | succ m ih =>
    intro i8
    refine (laws_eqInt64S_ss.b0_eq N K (fun s => xloop (xcode (E38 N) ents laws_eqInt64S_ss.kp 2 N (cL (cK (cB (cA (cB (cB laws_eqInt64S_ss.bd)))))) 0) laws_eqInt64S_ss.kp 2 0 m s (laws_eqInt64S_ss.k0 N K g4 g5 g6 g7)) a0 a1 b2 b3 g4 g5 g6 g7 i8).trans ?_
    simp only [ih]
    kernel_rfl

theorem laws_eqInt64S_ss.s_eq {ρ : Type} (N : Nat) (K : AV → Heap → Option ρ) (a0 : Nat) (a1 : Nat) (b2 : Nat) (b3 : Nat) (g4 : Nat) (g5 : Nat → Int) (g6 : Nat) (g7 : Nat → Int) :
    xbody (E38 N) ents laws_eqInt64S_ss.kp N Go.Proofs.Try.f20 laws_eqInt64S_ss.bd [.slice 0 0 a0 (some a1) 1, .slice 1 0 b2 (some b3) 1] [⟨false, .ints .i64 g4 g5⟩, ⟨false, .ints .i64 g6 g7⟩] K = (laws_eqInt64S_ss.s N (fun d0 => K (.bool (d0)) [⟨false, .ints .i64 g4 g5⟩, ⟨false, .ints .i64 g6 g7⟩]) (fun i8 => xloop (xcode (E38 N) ents laws_eqInt64S_ss.kp 2 N (cL (cK (cB (cA (cB (cB laws_eqInt64S_ss.bd)))))) 0) laws_eqInt64S_ss.kp 2 0 N (laws_eqInt64S_ss.st0 a0 a1 b2 b3 g4 g5 g6 g7 i8) (laws_eqInt64S_ss.k0 N K g4 g5 g6 g7)) a0 b2) := by kernel_rfl

theorem laws_eqInt64S_ss.eq {ρ : Type} (N : Nat) (K : AV → Heap → Option ρ) (a0 : Nat) (a1 : Nat) (b2 : Nat) (b3 : Nat) (g4 : Nat) (g5 : Nat → Int) (g6 : Nat) (g7 : Nat → Int) :
    xbody (E38 N) ents laws_eqInt64S_ss.kp N Go.Proofs.Try.f20 laws_eqInt64S_ss.bd [.slice 0 0 a0 (some a1) 1, .slice 1 0 b2 (some b3) 1] [⟨false, .ints .i64 g4 g5⟩, ⟨false, .ints .i64 g6 g7⟩] K = (laws_eqInt64S_ss N (fun d0 => K (.bool (d0)) [⟨false, .ints .i64 g4 g5⟩, ⟨false, .ints .i64 g6 g7⟩]) a0 a1 b2 b3 g4 g5 g6 g7) := by
  refine (laws_eqInt64S_ss.s_eq N K a0 a1 b2 b3 g4 g5 g6 g7).trans ?_
  simp only [laws_eqInt64S_ss.l0_eq, laws_eqInt64S_ss.a0_0_eq]
  kernel_rfl

noncomputable def laws_eqInt64S_nn.en (N : Nat) (ρ : Type) : List AV → Heap → (AV → Heap → Option ρ) → Option ρ
  | [.nils, .nils], [], K => (laws_eqInt64S_nn N (fun d0 => K (.bool (d0)) []))
  | [.slice 0 0 a0 (some a1) 1, .nils], [⟨false, .ints .i64 g2 g3⟩], K => (laws_eqInt64S_sn N (fun d0 => K (.bool (d0)) [⟨false, .ints .i64 g2 g3⟩]) a0 a1 g2 g3)
  | [.nils, .slice 0 0 b0 (some b1) 1], [⟨false, .ints .i64 g2 g3⟩], K => (laws_eqInt64S_ns N (fun d0 => K (.bool (d0)) [⟨false, .ints .i64 g2 g3⟩]) b0 b1 g2 g3)
  | [.slice 0 0 a0 (some a1) 1, .slice 1 0 b2 (some b3) 1], [⟨false, .ints .i64 g4 g5⟩, ⟨false, .ints .i64 g6 g7⟩], K => (laws_eqInt64S_ss N (fun d0 => K (.bool (d0)) [⟨false, .ints .i64 g4 g5⟩, ⟨false, .ints .i64 g6 g7⟩]) a0 a1 b2 b3 g4 g5 g6 g7)
  | _, _, _ => none

theorem laws_eqInt64S_nn.en_ok (N : Nat) (hE : EnvOk (E38 N) ents) (ρ : Type) (args : List AV) (sh : Heap) (K : AV → Heap → Option ρ) (r : ρ) (h : laws_eqInt64S_nn.en N ρ args sh K = some r) : ∃ v sh', K v sh' = some r ∧ FnOk (E38 N).P 20 args sh v sh' := by
  unfold laws_eqInt64S_nn.en at h
  split at h
  · exact fn_ok hE (kp := laws_eqInt64S_nn.kp) (N := N) Go.Proofs.Try.func20 (c := laws_eqInt64S_nn.bd) (by kernel_rfl) ((laws_eqInt64S_nn.eq N _ ).trans h)
  · exact fn_ok hE (kp := laws_eqInt64S_sn.kp) (N := N) Go.Proofs.Try.func20 (c := laws_eqInt64S_sn.bd) (by kernel_rfl) ((laws_eqInt64S_sn.eq N _ _ _ _ _).trans h)
  · exact fn_ok hE (kp := laws_eqInt64S_ns.kp) (N := N) Go.Proofs.Try.func20 (c := laws_eqInt64S_ns.bd) (by kernel_rfl) ((laws_eqInt64S_ns.eq N _ _ _ _ _).trans h)
  · exact fn_ok hE (kp := laws_eqInt64S_ss.kp) (N := N) Go.Proofs.Try.func20 (c := laws_eqInt64S_ss.bd) (by kernel_rfl) ((laws_eqInt64S_ss.eq N _ _ _ _ _ _ _ _ _).trans h)
  · cases h

noncomputable def E39 (N : Nat) : Env := (E38 N).add 20 (laws_eqInt64S_nn.en N)

theorem E39_ok (N : Nat) : EnvOk (E39 N) ents := Env.add_ok (E38_ok N) (laws_eqInt64S_nn.en_ok N (E38_ok N))

noncomputable def laws_markInt64S_n.kp : Keeps := ⟨[(0, [0, 1, 5], 0)], [(0, [1], 0)]⟩

noncomputable def laws_markInt64S_n.bd : Code := bodyOf Go.Proofs.Try.f21

noncomputable def laws_markInt64S_n.fin {ρ : Type} (N : Nat) (K : AV → Heap → Option ρ) : XE → St → Option ρ := finK (E39 N) Go.Proofs.Try.f21 [] K

noncomputable def laws_markInt64S_n.k0 {ρ : Type} (N : Nat) (K : AV → Heap → Option ρ) : XE → St → Option ρ := (blockK laws_markInt64S_n.kp 0 0 (seqK (xcode (E39 N) ents laws_markInt64S_n.kp 0 N (cB (cB laws_markInt64S_n.bd)) 0) (laws_markInt64S_n.fin N K)))

theorem laws_markInt64S_n.k0_mix {ρ : Type} (N : Nat) (K : AV → Heap → Option ρ) : mixK (laws_markInt64S_n.fin N K .ret) (laws_markInt64S_n.k0 N K) = (laws_markInt64S_n.k0 N K) := by
  funext e s; cases e <;> rfl

noncomputable def laws_markInt64S_n.st0 (k0 : Int) : St := ⟨sl 19 [(0, .nils), (1, .int .i64 (k0)), (5, .int .i64 0)], []⟩

noncomputable def laws_markInt64S_n.sx0_0 (k0 : Int) : St := ⟨sl 19 [(1, .int .i64 (k0))], []⟩

theorem laws_markInt64S_n.b0_gen {ρ : Type} (N : Nat) (K : AV → Heap → Option ρ) (L0 : St → Option ρ) (kv : XE → St → Option ρ) (k0 : Int) :
    xcode (E39 N) ents laws_markInt64S_n.kp 0 N (cL (cK (cB (cA (cB laws_markInt64S_n.bd))))) 0 (laws_markInt64S_n.st0 k0) (roundK laws_markInt64S_n.kp 0 0 L0 (mixK (laws_markInt64S_n.fin N K .ret) kv)) = (laws_markInt64S_n.b0 N (fun d0 => K (.int .i64 (d0)) []) (L0 (laws_markInt64S_n.st0 k0)) (kv (.exit 0) (laws_markInt64S_n.sx0_0 k0))) := by kernel_rfl

theorem laws_markInt64S_n.b0_eq {ρ : Type} (N : Nat) (K : AV → Heap → Option ρ) (L0 : St → Option ρ) (k0 : Int) :
    xcode (E39 N) ents laws_markInt64S_n.kp 0 N (cL (cK (cB (cA (cB laws_markInt64S_n.bd))))) 0 (laws_markInt64S_n.st0 k0) (roundK laws_markInt64S_n.kp 0 0 L0 (laws_markInt64S_n.k0 N K)) = (laws_markInt64S_n.b0 N (fun d0 => K (.int .i64 (d0)) []) (L0 (laws_markInt64S_n.st0 k0)) ((laws_markInt64S_n.k0 N K) (.exit 0) (laws_markInt64S_n.sx0_0 k0))) := by
  have h := laws_markInt64S_n.b0_gen N K L0 (laws_markInt64S_n.k0 N K) k0
  rw [laws_markInt64S_n.k0_mix] at h
  exact h

theorem laws_markInt64S_n.a0_0_eq {ρ : Type} (N : Nat) (K : AV → Heap → Option ρ) (k0 : Int) :
    (laws_markInt64S_n.k0 N K) (.exit 0) (laws_markInt64S_n.sx0_0 k0) = (laws_markInt64S_n.a0_0 N (fun d0 => K (.int .i64 (d0)) []) k0) := by kernel_rfl

theorem laws_markInt64S_n.l0_eq {ρ : Type} (N : Nat) (K : AV → Heap → Option ρ) (k0 : Int) :
    ∀ (m : Nat), xloop (xcode (E39 N) ents laws_markInt64S_n.kp 0 N (cL (cK (cB (cA (cB laws_markInt64S_n.bd))))) 0) laws_markInt64S_n.kp 0 0 m (laws_markInt64S_n.st0 k0) (laws_markInt64S_n.k0 N K) = (laws_markInt64S_n.l0 N (fun d0 => K (.int .i64 (d0)) []) ((laws_markInt64S_n.k0 N K) (.exit 0) (laws_markInt64S_n.sx0_0 k0)) m) := by
  intro m
  induction m with
  | zero => intros; rfl
  | succ m ih =>
    refine (laws_markInt64S_n.b0_eq N K (fun s => xloop (xcode (E39 N) ents laws_markInt64S_n.kp 0 N (cL (cK (cB (cA (cB laws_markInt64S_n.bd))))) 0) laws_markInt64S_n.kp 0 0 m s (laws_markInt64S_n.k0 N K)) k0).trans ?_
    simp only [ih]
    kernel_rfl

theorem laws_markInt64S_n.s_eq {ρ : Type} (N : Nat) (K : AV → Heap → Option ρ) (k0 : Int) :
    xbody (E39 N) ents laws_markInt64S_n.kp N Go.Proofs.Try.f21 laws_markInt64S_n.bd [.nils, .int .i64 (k0)] [] K = (laws_markInt64S_n.s N (fun d0 => K (.int .i64 (d0)) []) (xloop (xcode (E39 N) ents laws_markInt64S_n.kp 0 N (cL (cK (cB (cA (cB laws_markInt64S_n.bd))))) 0) laws_markInt64S_n.kp 0 0 N (laws_markInt64S_n.st0 k0) (laws_markInt64S_n.k0 N K))) := by kernel_rfl

theorem laws_markInt64S_n.eq {ρ : Type} (N : Nat) (K : AV → Heap → Option ρ) (k0 : Int) :
    xbody (E39 N) ents laws_markInt64S_n.kp N Go.Proofs.Try.f21 laws_markInt64S_n.bd [.nils, .int .i64 (k0)] [] K = (laws_markInt64S_n N (fun d0 => K (.int .i64 (d0)) []) k0) := by
  refine (laws_markInt64S_n.s_eq N K k0).trans ?_
  simp only [laws_markInt64S_n.l0_eq, laws_markInt64S_n.a0_0_eq]
  kernel_rfl

noncomputable def laws_markInt64S_s.kp : Keeps := ⟨[(0, [0, 1, 5], 1)], [(0, [1], 1)]⟩

noncomputable def laws_markInt64S_s.bd : Code := bodyOf Go.Proofs.Try.f21

noncomputable def laws_markInt64S_s.fin {ρ : Type} (N : Nat) (K : AV → Heap → Option ρ) (g3 : Nat) (g4 : Nat → Int) : XE → St → Option ρ := finK (E39 N) Go.Proofs.Try.f21 [⟨true, .ints .i64 g3 g4⟩] K

noncomputable def laws_markInt64S_s.k0 {ρ : Type} (N : Nat) (K : AV → Heap → Option ρ) (g3 : Nat) (g4 : Nat → Int) : XE → St → Option ρ := (blockK laws_markInt64S_s.kp 1 0 (seqK (xcode (E39 N) ents laws_markInt64S_s.kp 1 N (cB (cB laws_markInt64S_s.bd)) 0) (laws_markInt64S_s.fin N K g3 g4)))

theorem laws_markInt64S_s.k0_mix {ρ : Type} (N : Nat) (K : AV → Heap → Option ρ) (g3 : Nat) (g4 : Nat → Int) : mixK (laws_markInt64S_s.fin N K g3 g4 .ret) (laws_markInt64S_s.k0 N K g3 g4) = (laws_markInt64S_s.k0 N K g3 g4) := by
  funext e s; cases e <;> rfl

noncomputable def laws_markInt64S_s.st0 (a0 : Nat) (a1 : Nat) (g3 : Nat) (k5 : Int) (i6 : Int) (g7 : Nat → Int) : St := ⟨sl 19 [(0, .slice 0 0 a0 (some a1) 1), (1, .int .i64 (k5)), (5, .int .i64 (i6))], [⟨true, .ints .i64 g3 g7⟩]⟩

noncomputable def laws_markInt64S_s.sx0_0 (g3 : Nat) (o8 : Int) (o9 : Nat → Int) : St := ⟨sl 19 [(1, .int .i64 (o8))], [⟨true, .ints .i64 g3 o9⟩]⟩

theorem laws_markInt64S_s.b0_gen {ρ : Type} (N : Nat) (K : AV → Heap → Option ρ) (L0 : St → Option ρ) (kv : XE → St → Option ρ) (a0 : Nat) (a1 : Nat) (g3 : Nat) (g4 : Nat → Int) (k5 : Int) (i6 : Int) (g7 : Nat → Int) :
    xcode (E39 N) ents laws_markInt64S_s.kp 1 N (cL (cK (cB (cA (cB laws_markInt64S_s.bd))))) 0 (laws_markInt64S_s.st0 a0 a1 g3 k5 i6 g7) (roundK laws_markInt64S_s.kp 1 0 L0 (mixK (laws_markInt64S_s.fin N K g3 g4 .ret) kv)) = (laws_markInt64S_s.b0 N (fun d0 d1 => K (.int .i64 (d0)) [⟨true, .ints .i64 g3 d1⟩]) (fun k5 i6 g7 => L0 (laws_markInt64S_s.st0 a0 a1 g3 k5 i6 g7)) (fun o8 o9 => kv (.exit 0) (laws_markInt64S_s.sx0_0 g3 o8 o9)) a0 k5 i6 g7) := by kernel_rfl

theorem laws_markInt64S_s.b0_eq {ρ : Type} (N : Nat) (K : AV → Heap → Option ρ) (L0 : St → Option ρ) (a0 : Nat) (a1 : Nat) (g3 : Nat) (g4 : Nat → Int) (k5 : Int) (i6 : Int) (g7 : Nat → Int) :
    xcode (E39 N) ents laws_markInt64S_s.kp 1 N (cL (cK (cB (cA (cB laws_markInt64S_s.bd))))) 0 (laws_markInt64S_s.st0 a0 a1 g3 k5 i6 g7) (roundK laws_markInt64S_s.kp 1 0 L0 (laws_markInt64S_s.k0 N K g3 g4)) = (laws_markInt64S_s.b0 N (fun d0 d1 => K (.int .i64 (d0)) [⟨true, .ints .i64 g3 d1⟩]) (fun k5 i6 g7 => L0 (laws_markInt64S_s.st0 a0 a1 g3 k5 i6 g7)) (fun o8 o9 => (laws_markInt64S_s.k0 N K g3 g4) (.exit 0) (laws_markInt64S_s.sx0_0 g3 o8 o9)) a0 k5 i6 g7) := by
  have h := laws_markInt64S_s.b0_gen N K L0 (laws_markInt64S_s.k0 N K g3 g4) a0 a1 g3 g4 k5 i6 g7
  rw [laws_markInt64S_s.k0_mix] at h
  exact h

theorem laws_markInt64S_s.a0_0_eq {ρ : Type} (N : Nat) (K : AV → Heap → Option ρ) (g3 : Nat) (g4 : Nat → Int) (o8 : Int) (o9 : Nat → Int) :
    (laws_markInt64S_s.k0 N K g3 g4) (.exit 0) (laws_markInt64S_s.sx0_0 g3 o8 o9) = (laws_markInt64S_s.a0_0 N (fun d0 d1 => K (.int .i64 (d0)) [⟨true, .ints .i64 g3 d1⟩]) o8 o9) := by kernel_rfl

theorem laws_markInt64S_s.l0_eq {ρ : Type} (N : Nat) (K : AV → Heap → Option ρ) (a0 : Nat) (a1 : Nat) (g3 : Nat) (g4 : Nat → Int) :
    ∀ (m : Nat) (k5 : Int) (i6 : Int) (g7 : Nat → Int), xloop (xcode (E39 N) ents laws_markInt64S_s.kp 1 N (cL (cK (cB (cA (cB laws_markInt64S_s.bd))))) 0) laws_markInt64S_s.kp 1 0 m (laws_markInt64S_s.st0 a0 a1 g3 k5 i6 g7) (laws_markInt64S_s.k0 N K g3 g4) = (laws_markInt64S_s.l0 N (fun d0 d1 => K (.int .i64 (d0)) [⟨true, .ints .i64 g3 d1⟩]) a0 (fun o8 o9 => (laws_markInt64S_s.k0 N K g3 g4) (.exit 0) (laws_markInt64S_s.sx0_0 g3 o8 o9)) m k5 i6 g7) := by
  intro m
  induction m with
  | zero => intros; rfl
  | succ m ih =>
    intro k5 i6 g7
    refine (laws_markInt64S_s.b0_eq N K (fun s => xloop (xcode (E39 N) ents laws_markInt64S_s.kp 1 N (cL (cK (cB (cA (cB laws_markInt64S_s.bd))))) 0) laws_markInt64S_s.kp 1 0 m s (laws_markInt64S_s.k0 N K g3 g4)) a0 a1 g3 g4 k5 i6 g7).trans ?_
    simp only [ih]
    kernel_rfl

theorem laws_markInt64S_s.s_eq {ρ : Type} (N : Nat) (K : AV → Heap → Option ρ) (a0 : Nat) (a1 : Nat) (k2 : Int) (g3 : Nat) (g4 : Nat → Int) :
    xbody (E39 N) ents laws_markInt64S_s.kp N Go.Proofs.Try.f21 laws_markInt64S_s.bd [.slice 0 0 a0 (some a1) 1, .int .i64 (k2)] [⟨true, .ints .i64 g3 g4⟩] K = (laws_markInt64S_s.s N (fun d0 d1 => K (.int .i64 (d0)) [⟨true, .ints .i64 g3 d1⟩]) (fun k5 i6 g7 => xloop (xcode (E39 N) ents laws_markInt64S_s.kp 1 N (cL (cK (cB (cA (cB laws_markInt64S_s.bd))))) 0) laws_markInt64S_s.kp 1 0 N (laws_markInt64S_s.st0 a0 a1 g3 k5 i6 g7) (laws_markInt64S_s.k0 N K g3 g4)) k2 g4) := by kernel_rfl

theorem laws_markInt64S_s.eq {ρ : Type} (N : Nat) (K : AV → Heap → Option ρ) (a0 : Nat) (a1 : Nat) (k2 : Int) (g3 : Nat) (g4 : Nat → Int) :
    xbody (E39 N) ents laws_markInt64S_s.kp N Go.Proofs.Try.f21 laws_markInt64S_s.bd [.slice 0 0 a0 (some a1) 1, .int .i64 (k2)] [⟨true, .ints .i64 g3 g4⟩] K = (laws_markInt64S_s N (fun d0 d1 => K (.int .i64 (d0)) [⟨true, .ints .i64 g3 d1⟩]) a0 a1 k2 g3 g4) := by
  refine (laws_markInt64S_s.s_eq N K a0 a1 k2 g3 g4).trans ?_
  simp only [laws_markInt64S_s.l0_eq, laws_markInt64S_s.a0_0_eq]
  kernel_rfl

noncomputable def laws_markInt64S_n.en (N : Nat) (ρ : Type) : List AV → Heap → (AV → Heap → Option ρ) → Option ρ
  | [.nils, .int .i64 (k0)], [], K => (laws_markInt64S_n N (fun d0 => K (.int .i64 (d0)) []) k0)
  | [.slice 0 0 a0 (some a1) 1, .int .i64 (k2)], [⟨true, .ints .i64 g3 g4⟩], K => (laws_markInt64S_s N (fun d0 d1 => K (.int .i64 (d0)) [⟨true, .ints .i64 g3 d1⟩]) a0 a1 k2 g3 g4)
  | _, _, _ => none

theorem laws_markInt64S_n.en_ok (N : Nat) (hE : EnvOk (E39 N) ents) (ρ : Type) (args : List AV) (sh : Heap) (K : AV → Heap → Option ρ) (r : ρ) (h : laws_markInt64S_n.en N ρ args sh K = some r) : ∃ v sh', K v sh' = some r ∧ FnOk (E39 N).P 21 args sh v sh' := by
  unfold laws_markInt64S_n.en at h
  split at h
  · exact fn_ok hE (kp := laws_markInt64S_n.kp) (N := N) Go.Proofs.Try.func21 (c := laws_markInt64S_n.bd) (by kernel_rfl) ((laws_markInt64S_n.eq N _ _).trans h)
  · exact fn_ok hE (kp := laws_markInt64S_s.kp) (N := N) Go.Proofs.Try.func21 (c := laws_markInt64S_s.bd) (by kernel_rfl) ((laws_markInt64S_s.eq N _ _ _ _ _ _).trans h)
  · cases h

noncomputable def E40 (N : Nat) : Env := (E39 N).add 21 (laws_markInt64S_n.en N)

theorem E40_ok (N : Nat) : EnvOk (E40 N) ents := Env.add_ok (E39_ok N) (laws_markInt64S_n.en_ok N (E39_ok N))

noncomputable def laws_heldInt64S_n.kp : Keeps := ⟨[(0, [0, 1, 5], 0)], [(0, [1], 0)]⟩

noncomputable def laws_heldInt64S_n.bd : Code := bodyOf Go.Proofs.Try.f22

noncomputable def laws_heldInt64S_n.fin {ρ : Type} (N : Nat) (K : AV → Heap → Option ρ) : XE → St → Option ρ := finK (E40 N) Go.Proofs.Try.f22 [] K

noncomputable def laws_heldInt64S_n.k0 {ρ : Type} (N : Nat) (K : AV → Heap → Option ρ) : XE → St → Option ρ := (blockK laws_heldInt64S_n.kp 0 0 (seqK (xcode (E40 N) ents laws_heldInt64S_n.kp 0 N (cB (cB laws_heldInt64S_n.bd)) 0) (laws_heldInt64S_n.fin N K)))

theorem laws_heldInt64S_n.k0_mix {ρ : Type} (N : Nat) (K : AV → Heap → Option ρ) : mixK (laws_heldInt64S_n.fin N K .ret) (laws_heldInt64S_n.k0 N K) = (laws_heldInt64S_n.k0 N K) := by
  funext e s; cases e <;> rfl

noncomputable def laws_heldInt64S_n.st0 (k0 : Int) : St := ⟨sl 21 [(0, .nils), (1, .int .i64 (k0)), (5, .int .i64 0)], []⟩

noncomputable def laws_heldInt64S_n.sx0_0 (k0 : Int) : St := ⟨sl 21 [(1, .int .i64 (k0))], []⟩

theorem laws_heldInt64S_n.b0_gen {ρ : Type} (N : Nat) (K : AV → Heap → Option ρ) (L0 : St → Option ρ) (kv : XE → St → Option ρ) (k0 : Int) :
    xcode (E40 N) ents laws_heldInt64S_n.kp 0 N (cL (cK (cB (cA (cB laws_heldInt64S_n.bd))))) 0 (laws_heldInt64S_n.st0 k0) (roundK laws_heldInt64S_n.kp 0 0 L0 (mixK (laws_heldInt64S_n.fin N K .ret) kv)) = (laws_heldInt64S_n.b0 N (fun d0 => K (.int .i64 (d0)) []) (L0 (laws_heldInt64S_n.st0 k0)) (kv (.exit 0) (laws_heldInt64S_n.sx0_0 k0))) := by kernel_rfl

theorem laws_heldInt64S_n.b0_eq {ρ : Type} (N : Nat) (K : AV → Heap → Option ρ) (L0 : St → Option ρ) (k0 : Int) :
    xcode (E40 N) ents laws_heldInt64S_n.kp 0 N (cL (cK (cB (cA (cB laws_heldInt64S_n.bd))))) 0 (laws_heldInt64S_n.st0 k0) (roundK laws_heldInt64S_n.kp 0 0 L0 (laws_heldInt64S_n.k0 N K)) = (laws_heldInt64S_n.b0 N (fun d0 => K (.int .i64 (d0)) []) (L0 (laws_heldInt64S_n.st0 k0)) ((laws_heldInt64S_n.k0 N K) (.exit 0) (laws_heldInt64S_n.sx0_0 k0))) := by
  have h := laws_heldInt64S_n.b0_gen N K L0 (laws_heldInt64S_n.k0 N K) k0
  rw [laws_heldInt64S_n.k0_mix] at h
  exact h

theorem laws_heldInt64S_n.a0_0_eq {ρ : Type} (N : Nat) (K : AV → Heap → Option ρ) (k0 : Int) :
    (laws_heldInt64S_n.k0 N K) (.exit 0) (laws_heldInt64S_n.sx0_0 k0) = (laws_heldInt64S_n.a0_0 N (fun d0 => K (.int .i64 (d0)) []) k0) := by kernel_rfl

theorem laws_heldInt64S_n.l0_eq {ρ : Type} (N : Nat) (K : AV → Heap → Option ρ) (k0 : Int) :
    ∀ (m : Nat), xloop (xcode (E40 N) ents laws_heldInt64S_n.kp 0 N (cL (cK (cB (cA (cB laws_heldInt64S_n.bd))))) 0) laws_heldInt64S_n.kp 0 0 m (laws_heldInt64S_n.st0 k0) (laws_heldInt64S_n.k0 N K) = (laws_heldInt64S_n.l0 N (fun d0 => K (.int .i64 (d0)) []) ((laws_heldInt64S_n.k0 N K) (.exit 0) (laws_heldInt64S_n.sx0_0 k0)) m) := by
  intro m
  induction m with
  | zero => intros; rfl
  | succ m ih =>
    refine (laws_heldInt64S_n.b0_eq N K (fun s => xloop (xcode (E40 N) ents laws_heldInt64S_n.kp 0 N (cL (cK (cB (cA (cB laws_heldInt64S_n.bd))))) 0) laws_heldInt64S_n.kp 0 0 m s (laws_heldInt64S_n.k0 N K)) k0).trans ?_
    simp only [ih]
    kernel_rfl

theorem laws_heldInt64S_n.s_eq {ρ : Type} (N : Nat) (K : AV → Heap → Option ρ) (k0 : Int) :
    xbody (E40 N) ents laws_heldInt64S_n.kp N Go.Proofs.Try.f22 laws_heldInt64S_n.bd [.nils, .int .i64 (k0)] [] K = (laws_heldInt64S_n.s N (fun d0 => K (.int .i64 (d0)) []) (xloop (xcode (E40 N) ents laws_heldInt64S_n.kp 0 N (cL (cK (cB (cA (cB laws_heldInt64S_n.bd))))) 0) laws_heldInt64S_n.kp 0 0 N (laws_heldInt64S_n.st0 k0) (laws_heldInt64S_n.k0 N K))) := by kernel_rfl

theorem laws_heldInt64S_n.eq {ρ : Type} (N : Nat) (K : AV → Heap → Option ρ) (k0 : Int) :
    xbody (E40 N) ents laws_heldInt64S_n.kp N Go.Proofs.Try.f22 laws_heldInt64S_n.bd [.nils, .int .i64 (k0)] [] K = (laws_heldInt64S_n N (fun d0 => K (.int .i64 (d0)) []) k0) := by
  refine (laws_heldInt64S_n.s_eq N K k0).trans ?_
  simp only [laws_heldInt64S_n.l0_eq, laws_heldInt64S_n.a0_0_eq]
  kernel_rfl

noncomputable def laws_heldInt64S_s.kp : Keeps := ⟨[(0, [0, 1, 5], 1)], [(0, [1], 1)]⟩

noncomputable def laws_heldInt64S_s.bd : Code := bodyOf Go.Proofs.Try.f22

noncomputable def laws_heldInt64S_s.fin {ρ : Type} (N : Nat) (K : AV → Heap → Option ρ) (g3 : Nat) (g4 : Nat → Int) : XE → St → Option ρ := finK (E40 N) Go.Proofs.Try.f22 [⟨false, .ints .i64 g3 g4⟩] K

noncomputable def laws_heldInt64S_s.k0 {ρ : Type} (N : Nat) (K : AV → Heap → Option ρ) (g3 : Nat) (g4 : Nat → Int) : XE → St → Option ρ := (blockK laws_heldInt64S_s.kp 1 0 (seqK (xcode (E40 N) ents laws_heldInt64S_s.kp 1 N (cB (cB laws_heldInt64S_s.bd)) 0) (laws_heldInt64S_s.fin N K g3 g4)))

theorem laws_heldInt64S_s.k0_mix {ρ : Type} (N : Nat) (K : AV → Heap → Option ρ) (g3 : Nat) (g4 : Nat → Int) : mixK (laws_heldInt64S_s.fin N K g3 g4 .ret) (laws_heldInt64S_s.k0 N K g3 g4) = (laws_heldInt64S_s.k0 N K g3 g4) := by
  funext e s; cases e <;> rfl

noncomputable def laws_heldInt64S_s.st0 (a0 : Nat) (a1 : Nat) (g3 : Nat) (g4 : Nat → Int) (k5 : Int) (i6 : Int) : St := ⟨sl 21 [(0, .slice 0 0 a0 (some a1) 1), (1, .int .i64 (k5)), (5, .int .i64 (i6))], [⟨false, .ints .i64 g3 g4⟩]⟩

noncomputable def laws_heldInt64S_s.sx0_0 (g3 : Nat) (g4 : Nat → Int) (o7 : Int) : St := ⟨sl 21 [(1, .int .i64 (o7))], [⟨false, .ints .i64 g3 g4⟩]⟩

theorem laws_heldInt64S_s.b0_gen {ρ : Type} (N : Nat) (K : AV → Heap → Option ρ) (L0 : St → Option ρ) (kv : XE → St → Option ρ) (a0 : Nat) (a1 : Nat) (g3 : Nat) (g4 : Nat → Int) (k5 : Int) (i6 : Int) :
    xcode (E40 N) ents laws_heldInt64S_s.kp 1 N (cL (cK (cB (cA (cB laws_heldInt64S_s.bd))))) 0 (laws_heldInt64S_s.st0 a0 a1 g3 g4 k5 i6) (roundK laws_heldInt64S_s.kp 1 0 L0 (mixK (laws_heldInt64S_s.fin N K g3 g4 .ret) kv)) = (laws_heldInt64S_s.b0 N (fun d0 => K (.int .i64 (d0)) [⟨false, .ints .i64 g3 g4⟩]) (fun k5 i6 => L0 (laws_heldInt64S_s.st0 a0 a1 g3 g4 k5 i6)) (fun o7 => kv (.exit 0) (laws_heldInt64S_s.sx0_0 g3 g4 o7)) a0 g4 k5 i6) := by kernel_rfl

theorem laws_heldInt64S_s.b0_eq {ρ : Type} (N : Nat) (K : AV → Heap → Option ρ) (L0 : St → Option ρ) (a0 : Nat) (a1 : Nat) (g3 : Nat) (g4 : Nat → Int) (k5 : Int) (i6 : Int) :
    xcode (E40 N) ents laws_heldInt64S_s.kp 1 N (cL (cK (cB (cA (cB laws_heldInt64S_s.bd))))) 0 (laws_heldInt64S_s.st0 a0 a1 g3 g4 k5 i6) (roundK laws_heldInt64S_s.kp 1 0 L0 (laws_heldInt64S_s.k0 N K g3 g4)) = (laws_heldInt64S_s.b0 N (fun d0 => K (.int .i64 (d0)) [⟨false, .ints .i64 g3 g4⟩]) (fun k5 i6 => L0 (laws_heldInt64S_s.st0 a0 a1 g3 g4 k5 i6)) (fun o7 => (laws_heldInt64S_s.k0 N K g3 g4) (.exit 0) (laws_heldInt64S_s.sx0_0 g3 g4 o7)) a0 g4 k5 i6) := by
  have h := laws_heldInt64S_s.b0_gen N K L0 (laws_heldInt64S_s.k0 N K g3 g4) a0 a1 g3 g4 k5 i6
  rw [laws_heldInt64S_s.k0_mix] at h
  exact h

theorem laws_heldInt64S_s.a0_0_eq {ρ : Type} (N : Nat) (K : AV → Heap → Option ρ) (g3 : Nat) (g4 : Nat → Int) (o7 : Int) :
    (laws_heldInt64S_s.k0 N K g3 g4) (.exit 0) (laws_heldInt64S_s.sx0_0 g3 g4 o7) = (laws_heldInt64S_s.a0_0 N (fun d0 => K (.int .i64 (d0)) [⟨false, .ints .i64 g3 g4⟩]) o7) := by kernel_rfl

theorem laws_heldInt64S_s.l0_eq {ρ : Type} (N : Nat) (K : AV → Heap → Option ρ) (a0 : Nat) (a1 : Nat) (g3 : Nat) (g4 : Nat → Int) :
    ∀ (m : Nat) (k5 : Int) (i6 : Int), xloop (xcode (E40 N) ents laws_heldInt64S_s.kp 1 N (cL (cK (cB (cA (cB laws_heldInt64S_s.bd))))) 0) laws_heldInt64S_s.kp 1 0 m (laws_heldInt64S_s.st0 a0 a1 g3 g4 k5 i6) (laws_heldInt64S_s.k0 N K g3 g4) = (laws_heldInt64S_s.l0 N (fun d0 => K (.int .i64 (d0)) [⟨false, .ints .i64 g3 g4⟩]) a0 g4 (fun o7 => (laws_heldInt64S_s.k0 N K g3 g4) (.exit 0) (laws_heldInt64S_s.sx0_0 g3 g4 o7)) m k5 i6) := by
  intro m
  induction m with
  | zero => intros; rfl
  | succ m ih =>
    intro k5 i6
    refine (laws_heldInt64S_s.b0_eq N K (fun s => xloop (xcode (E40 N) ents laws_heldInt64S_s.kp 1 N (cL (cK (cB (cA (cB laws_heldInt64S_s.bd))))) 0) laws_heldInt64S_s.kp 1 0 m s (laws_heldInt64S_s.k0 N K g3 g4)) a0 a1 g3 g4 k5 i6).trans ?_
    simp only [ih]
    kernel_rfl

theorem laws_heldInt64S_s.s_eq {ρ : Type} (N : Nat) (K : AV → Heap → Option ρ) (a0 : Nat) (a1 : Nat) (k2 : Int) (g3 : Nat) (g4 : Nat → Int) :
    xbody (E40 N) ents laws_heldInt64S_s.kp N Go.Proofs.Try.f22 laws_heldInt64S_s.bd [.slice 0 0 a0 (some a1) 1, .int .i64 (k2)] [⟨false, .ints .i64 g3 g4⟩] K = (laws_heldInt64S_s.s N (fun d0 => K (.int .i64 (d0)) [⟨false, .ints .i64 g3 g4⟩]) (fun k5 i6 => xloop (xcode (E40 N) ents laws_heldInt64S_s.kp 1 N (cL (cK (cB (cA (cB laws_heldInt64S_s.bd))))) 0) laws_heldInt64S_s.kp 1 0 N (laws_heldInt64S_s.st0 a0 a1 g3 g4 k5 i6) (laws_heldInt64S_s.k0 N K g3 g4)) k2) := by kernel_rfl

theorem laws_heldInt64S_s.eq {ρ : Type} (N : Nat) (K : AV → Heap → Option ρ) (a0 : Nat) (a1 : Nat) (k2 : Int) (g3 : Nat) (g4 : Nat → Int) :
    xbody (E40 N) ents laws_heldInt64S_s.kp N Go.Proofs.Try.f22 laws_heldInt64S_s.bd [.slice 0 0 a0 (some a1) 1, .int .i64 (k2)] [⟨false, .ints .i64 g3 g4⟩] K = (laws_heldInt64S_s N (fun d0 => K (.int .i64 (d0)) [⟨false, .ints .i64 g3 g4⟩]) a0 a1 k2 g3 g4) := by
  refine (laws_heldInt64S_s.s_eq N K a0 a1 k2 g3 g4).trans ?_
  simp only [laws_heldInt64S_s.l0_eq, laws_heldInt64S_s.a0_0_eq]
  kernel_rfl

noncomputable def laws_heldInt64S_n.en (N : Nat) (ρ : Type) : List AV → Heap → (AV → Heap → Option ρ) → Option ρ
  | [.nils, .int .i64 (k0)], [], K => (laws_heldInt64S_n N (fun d0 => K (.int .i64 (d0)) []) k0)
  | [.slice 0 0 a0 (some a1) 1, .int .i64 (k2)], [⟨false, .ints .i64 g3 g4⟩], K => (laws_heldInt64S_s N (fun d0 => K (.int .i64 (d0)) [⟨false, .ints .i64 g3 g4⟩]) a0 a1 k2 g3 g4)
  | _, _, _ => none

theorem laws_heldInt64S_n.en_ok (N : Nat) (hE : EnvOk (E40 N) ents) (ρ : Type) (args : List AV) (sh : Heap) (K : AV → Heap → Option ρ) (r : ρ) (h : laws_heldInt64S_n.en N ρ args sh K = some r) : ∃ v sh', K v sh' = some r ∧ FnOk (E40 N).P 22 args sh v sh' := by
  unfold laws_heldInt64S_n.en at h
  split at h
  · exact fn_ok hE (kp := laws_heldInt64S_n.kp) (N := N) Go.Proofs.Try.func22 (c := laws_heldInt64S_n.bd) (by kernel_rfl) ((laws_heldInt64S_n.eq N _ _).trans h)
  · exact fn_ok hE (kp := laws_heldInt64S_s.kp) (N := N) Go.Proofs.Try.func22 (c := laws_heldInt64S_s.bd) (by kernel_rfl) ((laws_heldInt64S_s.eq N _ _ _ _ _ _).trans h)
  · cases h

noncomputable def E41 (N : Nat) : Env := (E40 N).add 22 (laws_heldInt64S_n.en N)

theorem E41_ok (N : Nat) : EnvOk (E41 N) ents := Env.add_ok (E40_ok N) (laws_heldInt64S_n.en_ok N (E40_ok N))

noncomputable def laws_FnExactFirstCoFault.kp : Keeps := ⟨[], []⟩

noncomputable def laws_FnExactFirstCoFault.bd : Code := bodyOf Go.Proofs.Try.f4

noncomputable def laws_FnExactFirstCoFault.fin {ρ : Type} (N : Nat) (K : AV → Heap → Option ρ) : XE → St → Option ρ := finK (E41 N) Go.Proofs.Try.f4 [] K

theorem laws_FnExactFirstCoFault.eq {ρ : Type} (N : Nat) (K : AV → Heap → Option ρ) (aC0 : Nat → Int) (aC1 : Nat → Int) :
    xbody (E41 N) ents laws_FnExactFirstCoFault.kp N Go.Proofs.Try.f4 laws_FnExactFirstCoFault.bd [.agg [⟨.i64, 2, aC0⟩, ⟨.u8, 520, aC1⟩]] [] K = (laws_FnExactFirstCoFault N (fun d0 => K (.bool (d0)) []) aC0 aC1) := by kernel_rfl

noncomputable def laws_FnExactFirstCoFault.en (N : Nat) (ρ : Type) : List AV → Heap → (AV → Heap → Option ρ) → Option ρ
  | [.agg [⟨.i64, 2, aC0⟩, ⟨.u8, 520, aC1⟩]], [], K => (laws_FnExactFirstCoFault N (fun d0 => K (.bool (d0)) []) aC0 aC1)
  | _, _, _ => none

theorem laws_FnExactFirstCoFault.en_ok (N : Nat) (hE : EnvOk (E41 N) ents) (ρ : Type) (args : List AV) (sh : Heap) (K : AV → Heap → Option ρ) (r : ρ) (h : laws_FnExactFirstCoFault.en N ρ args sh K = some r) : ∃ v sh', K v sh' = some r ∧ FnOk (E41 N).P 4 args sh v sh' := by
  unfold laws_FnExactFirstCoFault.en at h
  split at h
  · exact fn_ok hE (kp := laws_FnExactFirstCoFault.kp) (N := N) Go.Proofs.Try.func4 (c := laws_FnExactFirstCoFault.bd) (by kernel_rfl) ((laws_FnExactFirstCoFault.eq N _ _ _).trans h)
  · cases h

noncomputable def E42 (N : Nat) : Env := (E41 N).add 4 (laws_FnExactFirstCoFault.en N)

theorem E42_ok (N : Nat) : EnvOk (E42 N) ents := Env.add_ok (E41_ok N) (laws_FnExactFirstCoFault.en_ok N (E41_ok N))

noncomputable def spec_l02Code_s8.kp : Keeps := ⟨[(0, [1, 2, 5], 3)], [(0, [], 3)]⟩

noncomputable def spec_l02Code_s8.bd : Code := bodyOf Go.Proofs.Try.f61

noncomputable def spec_l02Code_s8.fin {ρ : Type} (N : Nat) (K : AV → Heap → Option ρ) (g4 : Nat → Int) : XE → St → Option ρ := finK (E42 N) Go.Proofs.Try.f61 [⟨false, .ints .u8 8 g4⟩] K

noncomputable def spec_l02Code_s8.k0 {ρ : Type} (N : Nat) (K : AV → Heap → Option ρ) (g4 : Nat → Int) : XE → St → Option ρ := (blockK spec_l02Code_s8.kp 1 0 (seqK (xcode (E42 N) ents spec_l02Code_s8.kp 1 N (cB (cB (cB spec_l02Code_s8.bd))) 0) (spec_l02Code_s8.fin N K g4)))

theorem spec_l02Code_s8.k0_mix {ρ : Type} (N : Nat) (K : AV → Heap → Option ρ) (g4 : Nat → Int) : mixK (spec_l02Code_s8.fin N K g4 .ret) (spec_l02Code_s8.k0 N K g4) = (spec_l02Code_s8.k0 N K g4) := by
  funext e s; cases e <;> rfl

noncomputable def spec_l02Code_s8.st0 (c0 : Nat → Int) (c1 : Nat → Int) (list2 : Nat) (list3 : Nat) (g4 : Nat → Int) (i6 : Int) : St := ⟨sl 25 [(1, .slice 0 0 list2 (some list3) 8), (2, .sptr [(1, 2), (2, 520)]), (5, .int .i64 (i6))], [⟨false, .ints .u8 8 g4⟩, ⟨true, .ints .i64 2 c0⟩, ⟨true, .ints .u8 520 c1⟩]⟩

noncomputable def spec_l02Code_s8.sx0_0 (c0 : Nat → Int) (c1 : Nat → Int) (g4 : Nat → Int) : St := ⟨sl 25 [], [⟨false, .ints .u8 8 g4⟩, ⟨true, .ints .i64 2 c0⟩, ⟨true, .ints .u8 520 c1⟩]⟩

theorem spec_l02Code_s8.b0_gen {ρ : Type} (N : Nat) (K : AV → Heap → Option ρ) (L0 : St → Option ρ) (kv : XE → St → Option ρ) (c0 : Nat → Int) (c1 : Nat → Int) (list2 : Nat) (list3 : Nat) (g4 : Nat → Int) (i6 : Int) :
    xcode (E42 N) ents spec_l02Code_s8.kp 1 N (cL (cK (cB (cA (cB (cB spec_l02Code_s8.bd)))))) 0 (spec_l02Code_s8.st0 c0 c1 list2 list3 g4 i6) (roundK spec_l02Code_s8.kp 1 0 L0 (mixK (spec_l02Code_s8.fin N K g4 .ret) kv)) = (spec_l02Code_s8.b0 N (fun d0 => K (.int .i64 (d0)) [⟨false, .ints .u8 8 g4⟩]) (fun i6 => L0 (spec_l02Code_s8.st0 c0 c1 list2 list3 g4 i6)) (kv (.exit 0) (spec_l02Code_s8.sx0_0 c0 c1 g4)) c0 list2 g4 i6) := by kernel_rfl

theorem spec_l02Code_s8.b0_eq {ρ : Type} (N : Nat) (K : AV → Heap → Option ρ) (L0 : St → Option ρ) (c0 : Nat → Int) (c1 : Nat → Int) (list2 : Nat) (list3 : Nat) (g4 : Nat → Int) (i6 : Int) :
    xcode (E42 N) ents spec_l02Code_s8.kp 1 N (cL (cK (cB (cA (cB (cB spec_l02Code_s8.bd)))))) 0 (spec_l02Code_s8.st0 c0 c1 list2 list3 g4 i6) (roundK spec_l02Code_s8.kp 1 0 L0 (spec_l02Code_s8.k0 N K g4)) = (spec_l02Code_s8.b0 N (fun d0 => K (.int .i64 (d0)) [⟨false, .ints .u8 8 g4⟩]) (fun i6 => L0 (spec_l02Code_s8.st0 c0 c1 list2 list3 g4 i6)) ((spec_l02Code_s8.k0 N K g4) (.exit 0) (spec_l02Code_s8.sx0_0 c0 c1 g4)) c0 list2 g4 i6) := by
  have h := spec_l02Code_s8.b0_gen N K L0 (spec_l02Code_s8.k0 N K g4) c0 c1 list2 list3 g4 i6
  rw [spec_l02Code_s8.k0_mix] at h
  exact h

theorem spec_l02Code_s8.a0_0_eq {ρ : Type} (N : Nat) (K : AV → Heap → Option ρ) (c0 : Nat → Int) (c1 : Nat → Int) (g4 : Nat → Int) :
    (spec_l02Code_s8.k0 N K g4) (.exit 0) (spec_l02Code_s8.sx0_0 c0 c1 g4) = (spec_l02Code_s8.a0_0 N (fun d0 => K (.int .i64 (d0)) [⟨false, .ints .u8 8 g4⟩])) := by kernel_rfl

theorem spec_l02Code_s8.l0_eq {ρ : Type} (N : Nat) (K : AV → Heap → Option ρ) (c0 : Nat → Int) (c1 : Nat → Int) (list2 : Nat) (list3 : Nat) (g4 : Nat → Int) :
    ∀ (m : Nat) (i6 : Int), xloop (xcode (E42 N) ents spec_l02Code_s8.kp 1 N (cL (cK (cB (cA (cB (cB spec_l02Code_s8.bd)))))) 0) spec_l02Code_s8.kp 1 0 m (spec_l02Code_s8.st0 c0 c1 list2 list3 g4 i6) (spec_l02Code_s8.k0 N K g4) = (spec_l02Code_s8.l0 N (fun d0 => K (.int .i64 (d0)) [⟨false, .ints .u8 8 g4⟩]) c0 list2 g4 ((spec_l02Code_s8.k0 N K g4) (.exit 0) (spec_l02Code_s8.sx0_0 c0 c1 g4)) m i6) := by
  intro m
  induction m with
  | zero => intros; rfl
  | succ m ih =>
    intro i6
    refine (spec_l02Code_s8.b0_eq N K (fun s => xloop (xcode (E42 N) ents spec_l02Code_s8.kp 1 N (cL (cK (cB (cA (cB (cB spec_l02Code_s8.bd)))))) 0) spec_l02Code_s8.kp 1 0 m s (spec_l02Code_s8.k0 N K g4)) c0 c1 list2 list3 g4 i6).trans ?_
    simp only [ih]
    kernel_rfl

theorem spec_l02Code_s8.s_eq {ρ : Type} (N : Nat) (K : AV → Heap → Option ρ) (c0 : Nat → Int) (c1 : Nat → Int) (list2 : Nat) (list3 : Nat) (g4 : Nat → Int) :
    xbody (E42 N) ents spec_l02Code_s8.kp N Go.Proofs.Try.f61 spec_l02Code_s8.bd [.agg [⟨.i64, 2, c0⟩, ⟨.u8, 520, c1⟩], .slice 0 0 list2 (some list3) 8] [⟨false, .ints .u8 8 g4⟩] K = (spec_l02Code_s8.s N (fun d0 => K (.int .i64 (d0)) [⟨false, .ints .u8 8 g4⟩]) (fun i6 => xloop (xcode (E42 N) ents spec_l02Code_s8.kp 1 N (cL (cK (cB (cA (cB (cB spec_l02Code_s8.bd)))))) 0) spec_l02Code_s8.kp 1 0 N (spec_l02Code_s8.st0 c0 c1 list2 list3 g4 i6) (spec_l02Code_s8.k0 N K g4)) c0 c1) := by kernel_rfl

theorem spec_l02Code_s8.eq {ρ : Type} (N : Nat) (K : AV → Heap → Option ρ) (c0 : Nat → Int) (c1 : Nat → Int) (list2 : Nat) (list3 : Nat) (g4 : Nat → Int) :
    xbody (E42 N) ents spec_l02Code_s8.kp N Go.Proofs.Try.f61 spec_l02Code_s8.bd [.agg [⟨.i64, 2, c0⟩, ⟨.u8, 520, c1⟩], .slice 0 0 list2 (some list3) 8] [⟨false, .ints .u8 8 g4⟩] K = (spec_l02Code_s8 N (fun d0 => K (.int .i64 (d0)) [⟨false, .ints .u8 8 g4⟩]) c0 c1 list2 list3 g4) := by
  refine (spec_l02Code_s8.s_eq N K c0 c1 list2 list3 g4).trans ?_
  simp only [spec_l02Code_s8.l0_eq, spec_l02Code_s8.a0_0_eq]
  kernel_rfl

noncomputable def spec_l02Code_s8.en (N : Nat) (ρ : Type) : List AV → Heap → (AV → Heap → Option ρ) → Option ρ
  | [.agg [⟨.i64, 2, c0⟩, ⟨.u8, 520, c1⟩], .slice 0 0 list2 (some list3) 8], [⟨false, .ints .u8 8 g4⟩], K => (spec_l02Code_s8 N (fun d0 => K (.int .i64 (d0)) [⟨false, .ints .u8 8 g4⟩]) c0 c1 list2 list3 g4)
  | _, _, _ => none

theorem spec_l02Code_s8.en_ok (N : Nat) (hE : EnvOk (E42 N) ents) (ρ : Type) (args : List AV) (sh : Heap) (K : AV → Heap → Option ρ) (r : ρ) (h : spec_l02Code_s8.en N ρ args sh K = some r) : ∃ v sh', K v sh' = some r ∧ FnOk (E42 N).P 61 args sh v sh' := by
  unfold spec_l02Code_s8.en at h
  split at h
  · exact fn_ok hE (kp := spec_l02Code_s8.kp) (N := N) Go.Proofs.Try.func61 (c := spec_l02Code_s8.bd) (by kernel_rfl) ((spec_l02Code_s8.eq N _ _ _ _ _ _).trans h)
  · cases h

noncomputable def E43 (N : Nat) : Env := (E42 N).add 61 (spec_l02Code_s8.en N)

theorem E43_ok (N : Nat) : EnvOk (E43 N) ents := Env.add_ok (E42_ok N) (spec_l02Code_s8.en_ok N (E42_ok N))

noncomputable def spec_l02Counit.kp : Keeps := ⟨[(0, [2, 3, 5, 6], 3)], [(0, [2, 5], 3)]⟩

noncomputable def spec_l02Counit.bd : Code := bodyOf Go.Proofs.Try.f62

noncomputable def spec_l02Counit.fin {ρ : Type} (N : Nat) (K : AV → Heap → Option ρ) : XE → St → Option ρ := finK (E43 N) Go.Proofs.Try.f62 [] K

noncomputable def spec_l02Counit.k0 {ρ : Type} (N : Nat) (K : AV → Heap → Option ρ) : XE → St → Option ρ := (blockK spec_l02Counit.kp 0 0 (seqK (xcode (E43 N) ents spec_l02Counit.kp 0 N (cB (cB (cB spec_l02Counit.bd))) 0) (spec_l02Counit.fin N K)))

theorem spec_l02Counit.k0_mix {ρ : Type} (N : Nat) (K : AV → Heap → Option ρ) : mixK (spec_l02Counit.fin N K .ret) (spec_l02Counit.k0 N K) = (spec_l02Counit.k0 N K) := by
  funext e s; cases e <;> rfl

noncomputable def spec_l02Counit.st0 (c0 : Nat → Int) (c1 : Nat → Int) (v2 : Nat → Int) (sum3 : Int) (i4 : Int) : St := ⟨sl 27 [(2, .sptr [(0, 2), (1, 520)]), (3, .sptr [(2, 8)]), (5, .int .i64 (sum3)), (6, .int .i64 (i4))], [⟨true, .ints .i64 2 c0⟩, ⟨true, .ints .u8 520 c1⟩, ⟨true, .ints .u8 8 v2⟩]⟩

noncomputable def spec_l02Counit.sx0_0 (c0 : Nat → Int) (c1 : Nat → Int) (v2 : Nat → Int) (o5 : Int) : St := ⟨sl 27 [(2, .sptr [(0, 2), (1, 520)]), (5, .int .i64 (o5))], [⟨true, .ints .i64 2 c0⟩, ⟨true, .ints .u8 520 c1⟩, ⟨true, .ints .u8 8 v2⟩]⟩

theorem spec_l02Counit.b0_gen {ρ : Type} (N : Nat) (K : AV → Heap → Option ρ) (L0 : St → Option ρ) (kv : XE → St → Option ρ) (c0 : Nat → Int) (c1 : Nat → Int) (v2 : Nat → Int) (sum3 : Int) (i4 : Int) :
    xcode (E43 N) ents spec_l02Counit.kp 0 N (cL (cK (cB (cA (cB (cB spec_l02Counit.bd)))))) 0 (spec_l02Counit.st0 c0 c1 v2 sum3 i4) (roundK spec_l02Counit.kp 0 0 L0 (mixK (spec_l02Counit.fin N K .ret) kv)) = (spec_l02Counit.b0 N (fun d0 => K (.int .i64 (d0)) []) (fun sum3 i4 => L0 (spec_l02Counit.st0 c0 c1 v2 sum3 i4)) (fun o5 => kv (.exit 0) (spec_l02Counit.sx0_0 c0 c1 v2 o5)) c1 v2 sum3 i4) := by kernel_rfl

theorem spec_l02Counit.b0_eq {ρ : Type} (N : Nat) (K : AV → Heap → Option ρ) (L0 : St → Option ρ) (c0 : Nat → Int) (c1 : Nat → Int) (v2 : Nat → Int) (sum3 : Int) (i4 : Int) :
    xcode (E43 N) ents spec_l02Counit.kp 0 N (cL (cK (cB (cA (cB (cB spec_l02Counit.bd)))))) 0 (spec_l02Counit.st0 c0 c1 v2 sum3 i4) (roundK spec_l02Counit.kp 0 0 L0 (spec_l02Counit.k0 N K)) = (spec_l02Counit.b0 N (fun d0 => K (.int .i64 (d0)) []) (fun sum3 i4 => L0 (spec_l02Counit.st0 c0 c1 v2 sum3 i4)) (fun o5 => (spec_l02Counit.k0 N K) (.exit 0) (spec_l02Counit.sx0_0 c0 c1 v2 o5)) c1 v2 sum3 i4) := by
  have h := spec_l02Counit.b0_gen N K L0 (spec_l02Counit.k0 N K) c0 c1 v2 sum3 i4
  rw [spec_l02Counit.k0_mix] at h
  exact h

theorem spec_l02Counit.a0_0_eq {ρ : Type} (N : Nat) (K : AV → Heap → Option ρ) (c0 : Nat → Int) (c1 : Nat → Int) (v2 : Nat → Int) (o5 : Int) :
    (spec_l02Counit.k0 N K) (.exit 0) (spec_l02Counit.sx0_0 c0 c1 v2 o5) = (spec_l02Counit.a0_0 N (fun d0 => K (.int .i64 (d0)) []) c0 o5) := by kernel_rfl

theorem spec_l02Counit.l0_eq {ρ : Type} (N : Nat) (K : AV → Heap → Option ρ) (c0 : Nat → Int) (c1 : Nat → Int) (v2 : Nat → Int) :
    ∀ (m : Nat) (sum3 : Int) (i4 : Int), xloop (xcode (E43 N) ents spec_l02Counit.kp 0 N (cL (cK (cB (cA (cB (cB spec_l02Counit.bd)))))) 0) spec_l02Counit.kp 0 0 m (spec_l02Counit.st0 c0 c1 v2 sum3 i4) (spec_l02Counit.k0 N K) = (spec_l02Counit.l0 N (fun d0 => K (.int .i64 (d0)) []) c1 v2 (fun o5 => (spec_l02Counit.k0 N K) (.exit 0) (spec_l02Counit.sx0_0 c0 c1 v2 o5)) m sum3 i4) := by
  intro m
  induction m with
  | zero => intros; rfl
  | succ m ih =>
    intro sum3 i4
    refine (spec_l02Counit.b0_eq N K (fun s => xloop (xcode (E43 N) ents spec_l02Counit.kp 0 N (cL (cK (cB (cA (cB (cB spec_l02Counit.bd)))))) 0) spec_l02Counit.kp 0 0 m s (spec_l02Counit.k0 N K)) c0 c1 v2 sum3 i4).trans ?_
    simp only [ih]
    kernel_rfl

theorem spec_l02Counit.s_eq {ρ : Type} (N : Nat) (K : AV → Heap → Option ρ) (c0 : Nat → Int) (c1 : Nat → Int) (v2 : Nat → Int) :
    xbody (E43 N) ents spec_l02Counit.kp N Go.Proofs.Try.f62 spec_l02Counit.bd [.agg [⟨.i64, 2, c0⟩, ⟨.u8, 520, c1⟩], .agg [⟨.u8, 8, v2⟩]] [] K = (spec_l02Counit.s N (fun d0 => K (.int .i64 (d0)) []) (fun sum3 i4 => xloop (xcode (E43 N) ents spec_l02Counit.kp 0 N (cL (cK (cB (cA (cB (cB spec_l02Counit.bd)))))) 0) spec_l02Counit.kp 0 0 N (spec_l02Counit.st0 c0 c1 v2 sum3 i4) (spec_l02Counit.k0 N K))) := by kernel_rfl

theorem spec_l02Counit.eq {ρ : Type} (N : Nat) (K : AV → Heap → Option ρ) (c0 : Nat → Int) (c1 : Nat → Int) (v2 : Nat → Int) :
    xbody (E43 N) ents spec_l02Counit.kp N Go.Proofs.Try.f62 spec_l02Counit.bd [.agg [⟨.i64, 2, c0⟩, ⟨.u8, 520, c1⟩], .agg [⟨.u8, 8, v2⟩]] [] K = (spec_l02Counit N (fun d0 => K (.int .i64 (d0)) []) c0 c1 v2) := by
  refine (spec_l02Counit.s_eq N K c0 c1 v2).trans ?_
  simp only [spec_l02Counit.l0_eq, spec_l02Counit.a0_0_eq]
  kernel_rfl

noncomputable def spec_l02Counit.en (N : Nat) (ρ : Type) : List AV → Heap → (AV → Heap → Option ρ) → Option ρ
  | [.agg [⟨.i64, 2, c0⟩, ⟨.u8, 520, c1⟩], .agg [⟨.u8, 8, v2⟩]], [], K => (spec_l02Counit N (fun d0 => K (.int .i64 (d0)) []) c0 c1 v2)
  | _, _, _ => none

theorem spec_l02Counit.en_ok (N : Nat) (hE : EnvOk (E43 N) ents) (ρ : Type) (args : List AV) (sh : Heap) (K : AV → Heap → Option ρ) (r : ρ) (h : spec_l02Counit.en N ρ args sh K = some r) : ∃ v sh', K v sh' = some r ∧ FnOk (E43 N).P 62 args sh v sh' := by
  unfold spec_l02Counit.en at h
  split at h
  · exact fn_ok hE (kp := spec_l02Counit.kp) (N := N) Go.Proofs.Try.func62 (c := spec_l02Counit.bd) (by kernel_rfl) ((spec_l02Counit.eq N _ _ _ _).trans h)
  · cases h

noncomputable def E44 (N : Nat) : Env := (E43 N).add 62 (spec_l02Counit.en N)

theorem E44_ok (N : Nat) : EnvOk (E44 N) ents := Env.add_ok (E43_ok N) (spec_l02Counit.en_ok N (E43_ok N))

noncomputable def spec_CounitIn.kp : Keeps := ⟨[], []⟩

noncomputable def spec_CounitIn.bd : Code := bodyOf Go.Proofs.Try.f23

noncomputable def spec_CounitIn.fin {ρ : Type} (N : Nat) (K : AV → Heap → Option ρ) : XE → St → Option ρ := finK (E44 N) Go.Proofs.Try.f23 [] K

theorem spec_CounitIn.eq {ρ : Type} (N : Nat) (K : AV → Heap → Option ρ) (c0 : Nat → Int) (c1 : Nat → Int) (v2 : Nat → Int) :
    xbody (E44 N) ents spec_CounitIn.kp N Go.Proofs.Try.f23 spec_CounitIn.bd [.agg [⟨.i64, 2, c0⟩, ⟨.u8, 520, c1⟩], .agg [⟨.u8, 8, v2⟩]] [] K = (spec_CounitIn N (fun d0 d1 => K (.tup [.int .i64 (d0), .int .i64 (d1)]) []) c0 c1 v2) := by kernel_rfl

noncomputable def spec_CounitIn.en (N : Nat) (ρ : Type) : List AV → Heap → (AV → Heap → Option ρ) → Option ρ
  | [.agg [⟨.i64, 2, c0⟩, ⟨.u8, 520, c1⟩], .agg [⟨.u8, 8, v2⟩]], [], K => (spec_CounitIn N (fun d0 d1 => K (.tup [.int .i64 (d0), .int .i64 (d1)]) []) c0 c1 v2)
  | _, _, _ => none

theorem spec_CounitIn.en_ok (N : Nat) (hE : EnvOk (E44 N) ents) (ρ : Type) (args : List AV) (sh : Heap) (K : AV → Heap → Option ρ) (r : ρ) (h : spec_CounitIn.en N ρ args sh K = some r) : ∃ v sh', K v sh' = some r ∧ FnOk (E44 N).P 23 args sh v sh' := by
  unfold spec_CounitIn.en at h
  split at h
  · exact fn_ok hE (kp := spec_CounitIn.kp) (N := N) Go.Proofs.Try.func23 (c := spec_CounitIn.bd) (by kernel_rfl) ((spec_CounitIn.eq N _ _ _ _).trans h)
  · cases h

noncomputable def E45 (N : Nat) : Env := (E44 N).add 23 (spec_CounitIn.en N)

theorem E45_ok (N : Nat) : EnvOk (E45 N) ents := Env.add_ok (E44_ok N) (spec_CounitIn.en_ok N (E44_ok N))

noncomputable def impl_Coalgebra_has_c1.kp : Keeps := ⟨[], []⟩

noncomputable def impl_Coalgebra_has_c1.bd : Code := bodyOf Go.Proofs.Try.f132

noncomputable def impl_Coalgebra_has_c1.fin {ρ : Type} (N : Nat) (K : AV → Heap → Option ρ) (g1 : Nat → Int) (g2 : Nat → Int) : XE → St → Option ρ := finK (E45 N) Go.Proofs.Try.f132 [⟨false, .avs [.sptr [(1, 2), (2, 520)]]⟩, ⟨false, .ints .i64 2 g1⟩, ⟨false, .ints .u8 520 g2⟩] K

theorem impl_Coalgebra_has_c1.eq {ρ : Type} (N : Nat) (K : AV → Heap → Option ρ) (v0 : Nat → Int) (g1 : Nat → Int) (g2 : Nat → Int) :
    xbody (E45 N) ents impl_Coalgebra_has_c1.kp N Go.Proofs.Try.f132 impl_Coalgebra_has_c1.bd [.agg [⟨.u8, 8, v0⟩], .sptr [(0, 1)]] [⟨false, .avs [.sptr [(1, 2), (2, 520)]]⟩, ⟨false, .ints .i64 2 g1⟩, ⟨false, .ints .u8 520 g2⟩] K = (impl_Coalgebra_has_c1 N (fun d0 => K (.bool (d0)) [⟨false, .avs [.sptr [(1, 2), (2, 520)]]⟩, ⟨false, .ints .i64 2 g1⟩, ⟨false, .ints .u8 520 g2⟩]) v0 g1 g2) := by kernel_rfl

noncomputable def impl_Coalgebra_has_c1.en (N : Nat) (ρ : Type) : List AV → Heap → (AV → Heap → Option ρ) → Option ρ
  | [.agg [⟨.u8, 8, v0⟩], .sptr [(0, 1)]], [⟨false, .avs [.sptr [(1, 2), (2, 520)]]⟩, ⟨false, .ints .i64 2 g1⟩, ⟨false, .ints .u8 520 g2⟩], K => (impl_Coalgebra_has_c1 N (fun d0 => K (.bool (d0)) [⟨false, .avs [.sptr [(1, 2), (2, 520)]]⟩, ⟨false, .ints .i64 2 g1⟩, ⟨false, .ints .u8 520 g2⟩]) v0 g1 g2)
  | _, _, _ => none

theorem impl_Coalgebra_has_c1.en_ok (N : Nat) (hE : EnvOk (E45 N) ents) (ρ : Type) (args : List AV) (sh : Heap) (K : AV → Heap → Option ρ) (r : ρ) (h : impl_Coalgebra_has_c1.en N ρ args sh K = some r) : ∃ v sh', K v sh' = some r ∧ FnOk (E45 N).P 132 args sh v sh' := by
  unfold impl_Coalgebra_has_c1.en at h
  split at h
  · exact fn_ok hE (kp := impl_Coalgebra_has_c1.kp) (N := N) Go.Proofs.Try.func132 (c := impl_Coalgebra_has_c1.bd) (by kernel_rfl) ((impl_Coalgebra_has_c1.eq N _ _ _ _).trans h)
  · cases h

noncomputable def E46 (N : Nat) : Env := (E45 N).add 132 (impl_Coalgebra_has_c1.en N)

theorem E46_ok (N : Nat) : EnvOk (E46 N) ents := Env.add_ok (E45_ok N) (impl_Coalgebra_has_c1.en_ok N (E45_ok N))
end Go.Proofs.Ythecjjnieojjoaa.H
