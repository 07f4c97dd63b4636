import Derived.Test.YthecjjnieojjoaaHL1
namespace Go.Proofs.Ythecjjnieojjoaa.H
set_option linter.unusedVariables false
set_option linter.unusedSimpArgs false
noncomputable section
open Go Go.RowKit Go.Proofs.Ythecjjnieojjoaa.Hy
set_option maxRecDepth 100000
def impl_field_dot.kp : Keeps := ⟨[(0, [3, 5, 7, 10, 11], [], [])], [(0, [3, 7], [], [])], []⟩
def impl_field_dot.bd : Code := bodyOf Try.f65
def impl_field_dot.fin {ρ : Type} (N : Nat) (K : AV → Heap → Option ρ) : XE → St → Option ρ := finK (E41 N) impl_field_dot.kp.fins Try.f65 [] K
def impl_field_dot.k0 {ρ : Type} (N : Nat) (K : AV → Heap → Option ρ) : XE → St → Option ρ := (blockK impl_field_dot.kp 0 0 (seqK (xcode (E41 N) ents impl_field_dot.kp 0 N (cB (cB (cB impl_field_dot.bd))) 0) (impl_field_dot.fin N K)))
theorem impl_field_dot.k0_mix {ρ : Type} (N : Nat) (K : AV → Heap → Option ρ) : mixK (impl_field_dot.fin N K .ret) (impl_field_dot.k0 N K) = (impl_field_dot.k0 N K) := by
  funext e s; cases e <;> kernel_rfl
def impl_field_dot.st0 (f0 : Nat → Int) (v1 : Nat → Int) (w2 : Nat → Int) (outv3 : Int) (x4 : Int) : St := ⟨sl 29 [(3, .sptr [(0, 2)]), (5, .sptr [(1, 8)]), (7, .int .i64 (outv3)), (10, .agg [⟨.u8, 8, v1⟩]), (11, .int .i64 (x4))], [⟨true, .flat 2 (.ints .i64 f0)⟩, ⟨true, .flat 8 (.ints .u8 w2)⟩]⟩
def impl_field_dot.sx0_0 (f0 : Nat → Int) (ov5 : Int) : St := ⟨sl 29 [(3, .sptr [(0, 2)]), (7, .int .i64 (ov5))], [⟨true, .flat 2 (.ints .i64 f0)⟩]⟩
theorem impl_field_dot.b0_gen {ρ : Type} (N : Nat) (K : AV → Heap → Option ρ) (L0 : St → Option ρ) (kv : XE → St → Option ρ) (f0 : Nat → Int) (v1 : Nat → Int) (w2 : Nat → Int) (outv3 : Int) (x4 : Int) :
    xcode (E41 N) ents impl_field_dot.kp 0 N (cL (cK (cB (cA (cB (cB impl_field_dot.bd)))))) 0 (impl_field_dot.st0 f0 v1 w2 outv3 x4) (roundK impl_field_dot.kp 0 0 L0 (mixK (impl_field_dot.fin N K .ret) kv)) = (impl_field_dot.b0 N (fun d0 => K (.int .i64 (d0)) []) (fun outv3 x4 => L0 (impl_field_dot.st0 f0 v1 w2 outv3 x4)) (fun ov5 => kv (.exit 0) (impl_field_dot.sx0_0 f0 ov5)) v1 w2 outv3 x4) := by kernel_rfl
theorem impl_field_dot.b0_eq {ρ : Type} (N : Nat) (K : AV → Heap → Option ρ) (L0 : St → Option ρ) (f0 : Nat → Int) (v1 : Nat → Int) (w2 : Nat → Int) (outv3 : Int) (x4 : Int) :
    xcode (E41 N) ents impl_field_dot.kp 0 N (cL (cK (cB (cA (cB (cB impl_field_dot.bd)))))) 0 (impl_field_dot.st0 f0 v1 w2 outv3 x4) (roundK impl_field_dot.kp 0 0 L0 (impl_field_dot.k0 N K)) = (impl_field_dot.b0 N (fun d0 => K (.int .i64 (d0)) []) (fun outv3 x4 => L0 (impl_field_dot.st0 f0 v1 w2 outv3 x4)) (fun ov5 => (impl_field_dot.k0 N K) (.exit 0) (impl_field_dot.sx0_0 f0 ov5)) v1 w2 outv3 x4) := by
  have h := impl_field_dot.b0_gen N K L0 (impl_field_dot.k0 N K) f0 v1 w2 outv3 x4
  rw [impl_field_dot.k0_mix] at h
  exact h
theorem impl_field_dot.a0_0_eq {ρ : Type} (N : Nat) (K : AV → Heap → Option ρ) (f0 : Nat → Int) (ov5 : Int) :
    (impl_field_dot.k0 N K) (.exit 0) (impl_field_dot.sx0_0 f0 ov5) = (impl_field_dot.a0_0 N (fun d0 => K (.int .i64 (d0)) []) f0 ov5) := by kernel_rfl
theorem impl_field_dot.l0_eq {ρ : Type} (N : Nat) (K : AV → Heap → Option ρ) (f0 : Nat → Int) (v1 : Nat → Int) (w2 : Nat → Int) :
    ∀ (m : Nat) (outv3 : Int) (x4 : Int), xloop (xcode (E41 N) ents impl_field_dot.kp 0 N (cL (cK (cB (cA (cB (cB impl_field_dot.bd)))))) 0) impl_field_dot.kp 0 0 m (impl_field_dot.st0 f0 v1 w2 outv3 x4) (impl_field_dot.k0 N K) = (impl_field_dot.l0 N (fun d0 => K (.int .i64 (d0)) []) v1 w2 (fun ov5 => (impl_field_dot.k0 N K) (.exit 0) (impl_field_dot.sx0_0 f0 ov5)) m outv3 x4) := by
  intro m
  induction m with
  | zero => intros; rfl
  | succ m ih =>
    intro outv3 x4
    refine (impl_field_dot.b0_eq N K (fun s => xloop (xcode (E41 N) ents impl_field_dot.kp 0 N (cL (cK (cB (cA (cB (cB impl_field_dot.bd)))))) 0) impl_field_dot.kp 0 0 m s (impl_field_dot.k0 N K)) f0 v1 w2 outv3 x4).trans ?_
    simp only [ih]
    kernel_rfl
theorem impl_field_dot.s_eq {ρ : Type} (N : Nat) (K : AV → Heap → Option ρ) (f0 : Nat → Int) (v1 : Nat → Int) (w2 : Nat → Int) :
    xbody (E41 N) ents impl_field_dot.kp N Try.f65 impl_field_dot.bd [.agg [⟨.i64, 2, f0⟩], .agg [⟨.u8, 8, v1⟩], .agg [⟨.u8, 8, w2⟩]] [] K = (impl_field_dot.s N (fun d0 => K (.int .i64 (d0)) []) (fun outv3 x4 => xloop (xcode (E41 N) ents impl_field_dot.kp 0 N (cL (cK (cB (cA (cB (cB impl_field_dot.bd)))))) 0) impl_field_dot.kp 0 0 N (impl_field_dot.st0 f0 v1 w2 outv3 x4) (impl_field_dot.k0 N K))) := by kernel_rfl
theorem impl_field_dot.eq {ρ : Type} (N : Nat) (K : AV → Heap → Option ρ) (f0 : Nat → Int) (v1 : Nat → Int) (w2 : Nat → Int) :
    xbody (E41 N) ents impl_field_dot.kp N Try.f65 impl_field_dot.bd [.agg [⟨.i64, 2, f0⟩], .agg [⟨.u8, 8, v1⟩], .agg [⟨.u8, 8, w2⟩]] [] K = (impl_field_dot N (fun d0 => K (.int .i64 (d0)) []) f0 v1 w2) := by
  refine (impl_field_dot.s_eq N K f0 v1 w2).trans ?_
  simp only [impl_field_dot.l0_eq, impl_field_dot.a0_0_eq]
  kernel_rfl
def impl_field_dot.en (N : Nat) (ρ : Type) : List AV → Heap → (AV → Heap → Option ρ) → Option ρ
  | [.agg [⟨.i64, 2, f0⟩], .agg [⟨.u8, 8, v1⟩], .agg [⟨.u8, 8, w2⟩]], [], K => (impl_field_dot N (fun d0 => K (.int .i64 (d0)) []) f0 v1 w2)
  | _, _, _ => none
theorem impl_field_dot.en_ok (N : Nat) (hE : EnvOk (E41 N) ents) (ρ : Type) (args : List AV) (sh : Heap) (K : AV → Heap → Option ρ) (r : ρ) (h : impl_field_dot.en N ρ args sh K = some r) : ∃ v sh', K v sh' = some r ∧ FnOk (E41 N).P 65 args sh v sh' := by
  unfold impl_field_dot.en at h
  split at h
  · exact fn_ok hE (kp := impl_field_dot.kp) (N := N) Try.func65 (c := impl_field_dot.bd) (by kernel_rfl) ((impl_field_dot.eq N _ _ _ _).trans h)
  · cases h
def E42 (N : Nat) : Env := (E41 N).add 65 (impl_field_dot.en N)
theorem E42_ok (N : Nat) : EnvOk (E42 N) ents := Env.add_ok (E41_ok N) (impl_field_dot.en_ok N (E41_ok N))
def impl_basis.kp : Keeps := ⟨[], [], []⟩
def impl_basis.bd : Code := bodyOf Try.f98
def impl_basis.fin {ρ : Type} (N : Nat) (K : AV → Heap → Option ρ) : XE → St → Option ρ := finK (E42 N) impl_basis.kp.fins Try.f98 [] K
theorem impl_basis.eq {ρ : Type} (N : Nat) (K : AV → Heap → Option ρ) (i0 : Int) :
    xbody (E42 N) ents impl_basis.kp N Try.f98 impl_basis.bd [.int .i64 (i0)] [] K = (impl_basis N (fun d0 => K (.agg [⟨.u8, 8, d0⟩]) []) i0) := by kernel_rfl
def impl_basis.en (N : Nat) (ρ : Type) : List AV → Heap → (AV → Heap → Option ρ) → Option ρ
  | [.int .i64 (i0)], [], K => (impl_basis N (fun d0 => K (.agg [⟨.u8, 8, d0⟩]) []) i0)
  | _, _, _ => none
theorem impl_basis.en_ok (N : Nat) (hE : EnvOk (E42 N) ents) (ρ : Type) (args : List AV) (sh : Heap) (K : AV → Heap → Option ρ) (r : ρ) (h : impl_basis.en N ρ args sh K = some r) : ∃ v sh', K v sh' = some r ∧ FnOk (E42 N).P 98 args sh v sh' := by
  unfold impl_basis.en at h
  split at h
  · exact fn_ok hE (kp := impl_basis.kp) (N := N) Try.func98 (c := impl_basis.bd) (by kernel_rfl) ((impl_basis.eq N _ _).trans h)
  · cases h
def E43 (N : Nat) : Env := (E42 N).add 98 (impl_basis.en N)
theorem E43_ok (N : Nat) : EnvOk (E43 N) ents := Env.add_ok (E42_ok N) (impl_basis.en_ok N (E42_ok N))
def impl_Coalgebra_isCounit.kp : Keeps := ⟨[(0, [0, 3, 11, 12], [], []), (2, [0, 3, 4, 5, 6, 11, 12, 18, 19], [], [])], [(0, [], [], []), (2, [0, 3, 4, 5, 6, 11, 12], [], [])], []⟩
def impl_Coalgebra_isCounit.bd : Code := bodyOf Try.f56
def impl_Coalgebra_isCounit.fin {ρ : Type} (N : Nat) (K : AV → Heap → Option ρ) (gv0 : Nat → Int) (gv1 : Nat → Int) : XE → St → Option ρ := finK (E43 N) impl_Coalgebra_isCounit.kp.fins Try.f56 [⟨false, .flat 2 (.ints .i64 gv0)⟩, ⟨false, .flat 520 (.ints .u8 gv1)⟩] K
def impl_Coalgebra_isCounit.k0 {ρ : Type} (N : Nat) (K : AV → Heap → Option ρ) (gv0 : Nat → Int) (gv1 : Nat → Int) : XE → St → Option ρ := (blockK impl_Coalgebra_isCounit.kp 2 0 (seqK (xcode (E43 N) ents impl_Coalgebra_isCounit.kp 2 N (cB (cB (cB impl_Coalgebra_isCounit.bd))) 0) (impl_Coalgebra_isCounit.fin N K gv0 gv1)))
theorem impl_Coalgebra_isCounit.k0_mix {ρ : Type} (N : Nat) (K : AV → Heap → Option ρ) (gv0 : Nat → Int) (gv1 : Nat → Int) : mixK (impl_Coalgebra_isCounit.fin N K gv0 gv1 .ret) (impl_Coalgebra_isCounit.k0 N K gv0 gv1) = (impl_Coalgebra_isCounit.k0 N K gv0 gv1) := by
  funext e s; cases e <;> kernel_rfl
def impl_Coalgebra_isCounit.st0 (gv0 : Nat → Int) (gv1 : Nat → Int) (rv2 : Nat → Int) (x3 : Int) : St := ⟨sl 68 [(0, .sptr [(0, 2), (1, 520)]), (3, .sptr [(2, 2)]), (11, .int .i64 ((rv2 1))), (12, .int .i64 (x3))], [⟨false, .flat 2 (.ints .i64 gv0)⟩, ⟨false, .flat 520 (.ints .u8 gv1)⟩, ⟨true, .flat 2 (.ints .i64 rv2)⟩]⟩
def impl_Coalgebra_isCounit.sx0_0 (gv0 : Nat → Int) (gv1 : Nat → Int) : St := ⟨sl 68 [], [⟨false, .flat 2 (.ints .i64 gv0)⟩, ⟨false, .flat 520 (.ints .u8 gv1)⟩]⟩
def impl_Coalgebra_isCounit.k1g {ρ : Type} (N : Nat) (L0 : St → Option ρ) (kv : XE → St → Option ρ) : XE → St → Option ρ := (blockK impl_Coalgebra_isCounit.kp 2 2 (seqK (xcode (E43 N) ents impl_Coalgebra_isCounit.kp 2 N (cB (cB (cB (cK (cA (cB (cB (cL (cK (cB (cA (cB (cB impl_Coalgebra_isCounit.bd))))))))))))) 1) (blockK impl_Coalgebra_isCounit.kp 2 1 (seqK (xcode (E43 N) ents impl_Coalgebra_isCounit.kp 2 N (cB (cB (cB (cL (cK (cB (cA (cB (cB impl_Coalgebra_isCounit.bd))))))))) 0) (roundK impl_Coalgebra_isCounit.kp 2 0 L0 kv)))))
theorem impl_Coalgebra_isCounit.k1_mix {ρ : Type} (N : Nat) (K : AV → Heap → Option ρ) (L0 : St → Option ρ) (gv0 : Nat → Int) (gv1 : Nat → Int) : mixK (impl_Coalgebra_isCounit.fin N K gv0 gv1 .ret) (impl_Coalgebra_isCounit.k1g N L0 (impl_Coalgebra_isCounit.k0 N K gv0 gv1)) = (impl_Coalgebra_isCounit.k1g N L0 (impl_Coalgebra_isCounit.k0 N K gv0 gv1)) := by
  funext e s; cases e <;> kernel_rfl
def impl_Coalgebra_isCounit.st1 (gv0 : Nat → Int) (gv1 : Nat → Int) (rv2 : Nat → Int) (x3 : Int) (x4 : Int) (gv5 : Nat → Int) (gv6 : Nat → Int) : St := ⟨sl 68 [(0, .sptr [(0, 2), (1, 520)]), (3, .sptr [(2, 2)]), (4, .int .i64 (x3)), (5, .sptr [(3, 8)]), (6, .sptr [(4, 8)]), (11, .int .i64 ((rv2 1))), (12, .int .i64 (x3)), (18, .int .i64 ((rv2 1))), (19, .int .i64 (x4))], [⟨false, .flat 2 (.ints .i64 gv0)⟩, ⟨false, .flat 520 (.ints .u8 gv1)⟩, ⟨true, .flat 2 (.ints .i64 rv2)⟩, ⟨true, .flat 8 (.ints .u8 gv5)⟩, ⟨true, .flat 8 (.ints .u8 gv6)⟩]⟩
def impl_Coalgebra_isCounit.sx1_0 (gv0 : Nat → Int) (gv1 : Nat → Int) (rv2 : Nat → Int) (x3 : Int) (ov9 : Nat → Int) (ov10 : Nat → Int) : St := ⟨sl 68 [(0, .sptr [(0, 2), (1, 520)]), (3, .sptr [(2, 2)]), (4, .int .i64 (x3)), (5, .sptr [(3, 8)]), (6, .sptr [(4, 8)]), (11, .int .i64 ((rv2 1))), (12, .int .i64 (x3))], [⟨false, .flat 2 (.ints .i64 gv0)⟩, ⟨false, .flat 520 (.ints .u8 gv1)⟩, ⟨true, .flat 2 (.ints .i64 rv2)⟩, ⟨true, .flat 8 (.ints .u8 ov9)⟩, ⟨true, .flat 8 (.ints .u8 ov10)⟩]⟩
theorem impl_Coalgebra_isCounit.b1_gen {ρ : Type} (N : Nat) (K : AV → Heap → Option ρ) (L1 : St → Option ρ) (kv : XE → St → Option ρ) (gv0 : Nat → Int) (gv1 : Nat → Int) (rv2 : Nat → Int) (x3 : Int) (x4 : Int) (gv5 : Nat → Int) (gv6 : Nat → Int) :
    xcode (E43 N) ents impl_Coalgebra_isCounit.kp 2 N (cL (cK (cB (cA (cB (cB (cK (cA (cB (cB (cL (cK (cB (cA (cB (cB impl_Coalgebra_isCounit.bd)))))))))))))))) 2 (impl_Coalgebra_isCounit.st1 gv0 gv1 rv2 x3 x4 gv5 gv6) (roundK impl_Coalgebra_isCounit.kp 2 2 L1 (mixK (impl_Coalgebra_isCounit.fin N K gv0 gv1 .ret) kv)) = (impl_Coalgebra_isCounit.b1 N (fun d0 => K (.bool (d0)) [⟨false, .flat 2 (.ints .i64 gv0)⟩, ⟨false, .flat 520 (.ints .u8 gv1)⟩]) (fun x4 gv5 gv6 => L1 (impl_Coalgebra_isCounit.st1 gv0 gv1 rv2 x3 x4 gv5 gv6)) (fun ov9 ov10 => kv (.exit 2) (impl_Coalgebra_isCounit.sx1_0 gv0 gv1 rv2 x3 ov9 ov10)) gv1 rv2 x3 x4 gv5 gv6) := by kernel_rfl
theorem impl_Coalgebra_isCounit.b1_eq {ρ : Type} (N : Nat) (K : AV → Heap → Option ρ) (L0 : St → Option ρ) (L1 : St → Option ρ) (gv0 : Nat → Int) (gv1 : Nat → Int) (rv2 : Nat → Int) (x3 : Int) (x4 : Int) (gv5 : Nat → Int) (gv6 : Nat → Int) :
    xcode (E43 N) ents impl_Coalgebra_isCounit.kp 2 N (cL (cK (cB (cA (cB (cB (cK (cA (cB (cB (cL (cK (cB (cA (cB (cB impl_Coalgebra_isCounit.bd)))))))))))))))) 2 (impl_Coalgebra_isCounit.st1 gv0 gv1 rv2 x3 x4 gv5 gv6) (roundK impl_Coalgebra_isCounit.kp 2 2 L1 (impl_Coalgebra_isCounit.k1g N L0 (impl_Coalgebra_isCounit.k0 N K gv0 gv1))) = (impl_Coalgebra_isCounit.b1 N (fun d0 => K (.bool (d0)) [⟨false, .flat 2 (.ints .i64 gv0)⟩, ⟨false, .flat 520 (.ints .u8 gv1)⟩]) (fun x4 gv5 gv6 => L1 (impl_Coalgebra_isCounit.st1 gv0 gv1 rv2 x3 x4 gv5 gv6)) (fun ov9 ov10 => (impl_Coalgebra_isCounit.k1g N L0 (impl_Coalgebra_isCounit.k0 N K gv0 gv1)) (.exit 2) (impl_Coalgebra_isCounit.sx1_0 gv0 gv1 rv2 x3 ov9 ov10)) gv1 rv2 x3 x4 gv5 gv6) := by
  have h := impl_Coalgebra_isCounit.b1_gen N K L1 (impl_Coalgebra_isCounit.k1g N L0 (impl_Coalgebra_isCounit.k0 N K gv0 gv1)) gv0 gv1 rv2 x3 x4 gv5 gv6
  rw [impl_Coalgebra_isCounit.k1_mix] at h
  exact h
theorem impl_Coalgebra_isCounit.a1_0_gen {ρ : Type} (N : Nat) (K : AV → Heap → Option ρ) (L0 : St → Option ρ) (kv : XE → St → Option ρ) (gv0 : Nat → Int) (gv1 : Nat → Int) (rv2 : Nat → Int) (x3 : Int) (ov9 : Nat → Int) (ov10 : Nat → Int) :
    (impl_Coalgebra_isCounit.k1g N L0 (mixK (impl_Coalgebra_isCounit.fin N K gv0 gv1 .ret) kv)) (.exit 2) (impl_Coalgebra_isCounit.sx1_0 gv0 gv1 rv2 x3 ov9 ov10) = (impl_Coalgebra_isCounit.a1_0 N (fun d0 => K (.bool (d0)) [⟨false, .flat 2 (.ints .i64 gv0)⟩, ⟨false, .flat 520 (.ints .u8 gv1)⟩]) (fun x3 => L0 (impl_Coalgebra_isCounit.st0 gv0 gv1 rv2 x3)) (kv (.exit 0) (impl_Coalgebra_isCounit.sx0_0 gv0 gv1)) x3 ov9 ov10) := by kernel_rfl
theorem impl_Coalgebra_isCounit.a1_0_eq {ρ : Type} (N : Nat) (K : AV → Heap → Option ρ) (L0 : St → Option ρ) (gv0 : Nat → Int) (gv1 : Nat → Int) (rv2 : Nat → Int) (x3 : Int) (ov9 : Nat → Int) (ov10 : Nat → Int) :
    (impl_Coalgebra_isCounit.k1g N L0 (impl_Coalgebra_isCounit.k0 N K gv0 gv1)) (.exit 2) (impl_Coalgebra_isCounit.sx1_0 gv0 gv1 rv2 x3 ov9 ov10) = (impl_Coalgebra_isCounit.a1_0 N (fun d0 => K (.bool (d0)) [⟨false, .flat 2 (.ints .i64 gv0)⟩, ⟨false, .flat 520 (.ints .u8 gv1)⟩]) (fun x3 => L0 (impl_Coalgebra_isCounit.st0 gv0 gv1 rv2 x3)) ((impl_Coalgebra_isCounit.k0 N K gv0 gv1) (.exit 0) (impl_Coalgebra_isCounit.sx0_0 gv0 gv1)) x3 ov9 ov10) := by
  have h := impl_Coalgebra_isCounit.a1_0_gen N K L0 (impl_Coalgebra_isCounit.k0 N K gv0 gv1) gv0 gv1 rv2 x3 ov9 ov10
  rw [impl_Coalgebra_isCounit.k0_mix] at h
  exact h
theorem impl_Coalgebra_isCounit.b0_gen {ρ : Type} (N : Nat) (K : AV → Heap → Option ρ) (L0 : St → Option ρ) (kv : XE → St → Option ρ) (gv0 : Nat → Int) (gv1 : Nat → Int) (rv2 : Nat → Int) (x3 : Int) :
    xcode (E43 N) ents impl_Coalgebra_isCounit.kp 2 N (cL (cK (cB (cA (cB (cB impl_Coalgebra_isCounit.bd)))))) 0 (impl_Coalgebra_isCounit.st0 gv0 gv1 rv2 x3) (roundK impl_Coalgebra_isCounit.kp 2 0 L0 (mixK (impl_Coalgebra_isCounit.fin N K gv0 gv1 .ret) kv)) = (impl_Coalgebra_isCounit.b0 N (fun d0 => K (.bool (d0)) [⟨false, .flat 2 (.ints .i64 gv0)⟩, ⟨false, .flat 520 (.ints .u8 gv1)⟩]) (fun x4 gv5 gv6 => xloop (xcode (E43 N) ents impl_Coalgebra_isCounit.kp 2 N (cL (cK (cB (cA (cB (cB (cK (cA (cB (cB (cL (cK (cB (cA (cB (cB impl_Coalgebra_isCounit.bd)))))))))))))))) 2) impl_Coalgebra_isCounit.kp 2 2 N (impl_Coalgebra_isCounit.st1 gv0 gv1 rv2 x3 x4 gv5 gv6) (impl_Coalgebra_isCounit.k1g N L0 (mixK (impl_Coalgebra_isCounit.fin N K gv0 gv1 .ret) kv))) (fun x3 => L0 (impl_Coalgebra_isCounit.st0 gv0 gv1 rv2 x3)) (kv (.exit 0) (impl_Coalgebra_isCounit.sx0_0 gv0 gv1)) rv2 x3) := by kernel_rfl
theorem impl_Coalgebra_isCounit.b0_eq {ρ : Type} (N : Nat) (K : AV → Heap → Option ρ) (L0 : St → Option ρ) (gv0 : Nat → Int) (gv1 : Nat → Int) (rv2 : Nat → Int) (x3 : Int) :
    xcode (E43 N) ents impl_Coalgebra_isCounit.kp 2 N (cL (cK (cB (cA (cB (cB impl_Coalgebra_isCounit.bd)))))) 0 (impl_Coalgebra_isCounit.st0 gv0 gv1 rv2 x3) (roundK impl_Coalgebra_isCounit.kp 2 0 L0 (impl_Coalgebra_isCounit.k0 N K gv0 gv1)) = (impl_Coalgebra_isCounit.b0 N (fun d0 => K (.bool (d0)) [⟨false, .flat 2 (.ints .i64 gv0)⟩, ⟨false, .flat 520 (.ints .u8 gv1)⟩]) (fun x4 gv5 gv6 => xloop (xcode (E43 N) ents impl_Coalgebra_isCounit.kp 2 N (cL (cK (cB (cA (cB (cB (cK (cA (cB (cB (cL (cK (cB (cA (cB (cB impl_Coalgebra_isCounit.bd)))))))))))))))) 2) impl_Coalgebra_isCounit.kp 2 2 N (impl_Coalgebra_isCounit.st1 gv0 gv1 rv2 x3 x4 gv5 gv6) (impl_Coalgebra_isCounit.k1g N L0 (impl_Coalgebra_isCounit.k0 N K gv0 gv1))) (fun x3 => L0 (impl_Coalgebra_isCounit.st0 gv0 gv1 rv2 x3)) ((impl_Coalgebra_isCounit.k0 N K gv0 gv1) (.exit 0) (impl_Coalgebra_isCounit.sx0_0 gv0 gv1)) rv2 x3) := by
  have h := impl_Coalgebra_isCounit.b0_gen N K L0 (impl_Coalgebra_isCounit.k0 N K gv0 gv1) gv0 gv1 rv2 x3
  rw [impl_Coalgebra_isCounit.k0_mix] at h
  exact h
theorem impl_Coalgebra_isCounit.a0_0_eq {ρ : Type} (N : Nat) (K : AV → Heap → Option ρ) (gv0 : Nat → Int) (gv1 : Nat → Int) :
    (impl_Coalgebra_isCounit.k0 N K gv0 gv1) (.exit 0) (impl_Coalgebra_isCounit.sx0_0 gv0 gv1) = (impl_Coalgebra_isCounit.a0_0 N (fun d0 => K (.bool (d0)) [⟨false, .flat 2 (.ints .i64 gv0)⟩, ⟨false, .flat 520 (.ints .u8 gv1)⟩])) := by kernel_rfl
theorem impl_Coalgebra_isCounit.l1_eq {ρ : Type} (N : Nat) (K : AV → Heap → Option ρ) (L0 : St → Option ρ) (gv0 : Nat → Int) (gv1 : Nat → Int) (rv2 : Nat → Int) (x3 : Int) :
    ∀ (m : Nat) (x4 : Int) (gv5 : Nat → Int) (gv6 : Nat → Int), xloop (xcode (E43 N) ents impl_Coalgebra_isCounit.kp 2 N (cL (cK (cB (cA (cB (cB (cK (cA (cB (cB (cL (cK (cB (cA (cB (cB impl_Coalgebra_isCounit.bd)))))))))))))))) 2) impl_Coalgebra_isCounit.kp 2 2 m (impl_Coalgebra_isCounit.st1 gv0 gv1 rv2 x3 x4 gv5 gv6) (impl_Coalgebra_isCounit.k1g N L0 (impl_Coalgebra_isCounit.k0 N K gv0 gv1)) = (impl_Coalgebra_isCounit.l1 N (fun d0 => K (.bool (d0)) [⟨false, .flat 2 (.ints .i64 gv0)⟩, ⟨false, .flat 520 (.ints .u8 gv1)⟩]) gv1 rv2 x3 (fun ov9 ov10 => (impl_Coalgebra_isCounit.k1g N L0 (impl_Coalgebra_isCounit.k0 N K gv0 gv1)) (.exit 2) (impl_Coalgebra_isCounit.sx1_0 gv0 gv1 rv2 x3 ov9 ov10)) m x4 gv5 gv6) := by
  intro m
  induction m with
  | zero => intros; rfl
  | succ m ih =>
    intro x4 gv5 gv6
    refine (impl_Coalgebra_isCounit.b1_eq N K L0 (fun s => xloop (xcode (E43 N) ents impl_Coalgebra_isCounit.kp 2 N (cL (cK (cB (cA (cB (cB (cK (cA (cB (cB (cL (cK (cB (cA (cB (cB impl_Coalgebra_isCounit.bd)))))))))))))))) 2) impl_Coalgebra_isCounit.kp 2 2 m s (impl_Coalgebra_isCounit.k1g N L0 (impl_Coalgebra_isCounit.k0 N K gv0 gv1))) gv0 gv1 rv2 x3 x4 gv5 gv6).trans ?_
    simp only [ih]
    kernel_rfl
theorem impl_Coalgebra_isCounit.l0_eq {ρ : Type} (N : Nat) (K : AV → Heap → Option ρ) (gv0 : Nat → Int) (gv1 : Nat → Int) (rv2 : Nat → Int) :
    ∀ (m : Nat) (x3 : Int), xloop (xcode (E43 N) ents impl_Coalgebra_isCounit.kp 2 N (cL (cK (cB (cA (cB (cB impl_Coalgebra_isCounit.bd)))))) 0) impl_Coalgebra_isCounit.kp 2 0 m (impl_Coalgebra_isCounit.st0 gv0 gv1 rv2 x3) (impl_Coalgebra_isCounit.k0 N K gv0 gv1) = (impl_Coalgebra_isCounit.l0 N (fun d0 => K (.bool (d0)) [⟨false, .flat 2 (.ints .i64 gv0)⟩, ⟨false, .flat 520 (.ints .u8 gv1)⟩]) gv1 rv2 ((impl_Coalgebra_isCounit.k0 N K gv0 gv1) (.exit 0) (impl_Coalgebra_isCounit.sx0_0 gv0 gv1)) m x3) := by
  intro m
  induction m with
  | zero => intros; rfl
  | succ m ih =>
    intro x3
    refine (impl_Coalgebra_isCounit.b0_eq N K (fun s => xloop (xcode (E43 N) ents impl_Coalgebra_isCounit.kp 2 N (cL (cK (cB (cA (cB (cB impl_Coalgebra_isCounit.bd)))))) 0) impl_Coalgebra_isCounit.kp 2 0 m s (impl_Coalgebra_isCounit.k0 N K gv0 gv1)) gv0 gv1 rv2 x3).trans ?_
    simp only [ih, impl_Coalgebra_isCounit.l1_eq, impl_Coalgebra_isCounit.a1_0_eq]
    kernel_rfl
theorem impl_Coalgebra_isCounit.s_eq {ρ : Type} (N : Nat) (K : AV → Heap → Option ρ) (gv0 : Nat → Int) (gv1 : Nat → Int) :
    xbody (E43 N) ents impl_Coalgebra_isCounit.kp N Try.f56 impl_Coalgebra_isCounit.bd [.sptr [(0, 2), (1, 520)]] [⟨false, .flat 2 (.ints .i64 gv0)⟩, ⟨false, .flat 520 (.ints .u8 gv1)⟩] K = (impl_Coalgebra_isCounit.s N (fun d0 => K (.bool (d0)) [⟨false, .flat 2 (.ints .i64 gv0)⟩, ⟨false, .flat 520 (.ints .u8 gv1)⟩]) (fun rv2 x3 => xloop (xcode (E43 N) ents impl_Coalgebra_isCounit.kp 2 N (cL (cK (cB (cA (cB (cB impl_Coalgebra_isCounit.bd)))))) 0) impl_Coalgebra_isCounit.kp 2 0 N (impl_Coalgebra_isCounit.st0 gv0 gv1 rv2 x3) (impl_Coalgebra_isCounit.k0 N K gv0 gv1)) gv0 gv1) := by kernel_rfl
theorem impl_Coalgebra_isCounit.eq {ρ : Type} (N : Nat) (K : AV → Heap → Option ρ) (gv0 : Nat → Int) (gv1 : Nat → Int) :
    xbody (E43 N) ents impl_Coalgebra_isCounit.kp N Try.f56 impl_Coalgebra_isCounit.bd [.sptr [(0, 2), (1, 520)]] [⟨false, .flat 2 (.ints .i64 gv0)⟩, ⟨false, .flat 520 (.ints .u8 gv1)⟩] K = (impl_Coalgebra_isCounit N (fun d0 => K (.bool (d0)) [⟨false, .flat 2 (.ints .i64 gv0)⟩, ⟨false, .flat 520 (.ints .u8 gv1)⟩]) gv0 gv1) := by
  refine (impl_Coalgebra_isCounit.s_eq N K gv0 gv1).trans ?_
  simp only [impl_Coalgebra_isCounit.l0_eq, impl_Coalgebra_isCounit.a0_0_eq]
  kernel_rfl
def impl_Coalgebra_isCounit.en (N : Nat) (ρ : Type) : List AV → Heap → (AV → Heap → Option ρ) → Option ρ
  | [.sptr [(0, 2), (1, 520)]], [⟨false, .flat 2 (.ints .i64 gv0)⟩, ⟨false, .flat 520 (.ints .u8 gv1)⟩], K => (impl_Coalgebra_isCounit N (fun d0 => K (.bool (d0)) [⟨false, .flat 2 (.ints .i64 gv0)⟩, ⟨false, .flat 520 (.ints .u8 gv1)⟩]) gv0 gv1)
  | _, _, _ => none
theorem impl_Coalgebra_isCounit.en_ok (N : Nat) (hE : EnvOk (E43 N) ents) (ρ : Type) (args : List AV) (sh : Heap) (K : AV → Heap → Option ρ) (r : ρ) (h : impl_Coalgebra_isCounit.en N ρ args sh K = some r) : ∃ v sh', K v sh' = some r ∧ FnOk (E43 N).P 56 args sh v sh' := by
  unfold impl_Coalgebra_isCounit.en at h
  split at h
  · exact fn_ok hE (kp := impl_Coalgebra_isCounit.kp) (N := N) Try.func56 (c := impl_Coalgebra_isCounit.bd) (by kernel_rfl) ((impl_Coalgebra_isCounit.eq N _ _ _).trans h)
  · cases h
def E44 (N : Nat) : Env := (E43 N).add 56 (impl_Coalgebra_isCounit.en N)
theorem E44_ok (N : Nat) : EnvOk (E44 N) ents := Env.add_ok (E43_ok N) (impl_Coalgebra_isCounit.en_ok N (E43_ok N))
def impl_Coalgebra_isFault.kp : Keeps := ⟨[(0, [0, 1, 2, 3, 4, 11, 12, 13, 18, 19], [], [])], [(0, [11, 12, 13], [], [])], []⟩
def impl_Coalgebra_isFault.bd : Code := bodyOf Try.f99
def impl_Coalgebra_isFault.fin {ρ : Type} (N : Nat) (K : AV → Heap → Option ρ) (gv4 : Nat → Int) (gv5 : Nat → Int) : XE → St → Option ρ := finK (E44 N) impl_Coalgebra_isFault.kp.fins Try.f99 [⟨false, .flat 2 (.ints .i64 gv4)⟩, ⟨false, .flat 520 (.ints .u8 gv5)⟩] K
def impl_Coalgebra_isFault.k0 {ρ : Type} (N : Nat) (K : AV → Heap → Option ρ) (gv4 : Nat → Int) (gv5 : Nat → Int) : XE → St → Option ρ := (blockK impl_Coalgebra_isFault.kp 2 0 (seqK (xcode (E44 N) ents impl_Coalgebra_isFault.kp 2 N (cB (cB (cB impl_Coalgebra_isFault.bd))) 0) (impl_Coalgebra_isFault.fin N K gv4 gv5)))
theorem impl_Coalgebra_isFault.k0_mix {ρ : Type} (N : Nat) (K : AV → Heap → Option ρ) (gv4 : Nat → Int) (gv5 : Nat → Int) : mixK (impl_Coalgebra_isFault.fin N K gv4 gv5 .ret) (impl_Coalgebra_isFault.k0 N K gv4 gv5) = (impl_Coalgebra_isFault.k0 N K gv4 gv5) := by
  funext e s; cases e <;> kernel_rfl
def impl_Coalgebra_isFault.st0 (i0 : Int) (j1 : Int) (k2 : Int) (lv3 : Int) (gv4 : Nat → Int) (gv5 : Nat → Int) (rv6 : Nat → Int) (one7 : Int) (two8 : Int) (x9 : Int) : St := ⟨sl 82 [(0, .sptr [(0, 2), (1, 520)]), (1, .int .i64 (i0)), (2, .int .i64 (j1)), (3, .int .i64 (k2)), (4, .int .i64 (lv3)), (11, .sptr [(2, 2)]), (12, .int .i64 (one7)), (13, .int .i64 (two8)), (18, .int .i64 ((rv6 1))), (19, .int .i64 (x9))], [⟨false, .flat 2 (.ints .i64 gv4)⟩, ⟨false, .flat 520 (.ints .u8 gv5)⟩, ⟨true, .flat 2 (.ints .i64 rv6)⟩]⟩
def impl_Coalgebra_isFault.sx0_0 (gv4 : Nat → Int) (gv5 : Nat → Int) (rv6 : Nat → Int) (ov10 : Int) (ov11 : Int) : St := ⟨sl 82 [(11, .sptr [(2, 2)]), (12, .int .i64 (ov10)), (13, .int .i64 (ov11))], [⟨false, .flat 2 (.ints .i64 gv4)⟩, ⟨false, .flat 520 (.ints .u8 gv5)⟩, ⟨true, .flat 2 (.ints .i64 rv6)⟩]⟩
theorem impl_Coalgebra_isFault.b0_gen {ρ : Type} (N : Nat) (K : AV → Heap → Option ρ) (L0 : St → Option ρ) (kv : XE → St → Option ρ) (i0 : Int) (j1 : Int) (k2 : Int) (lv3 : Int) (gv4 : Nat → Int) (gv5 : Nat → Int) (rv6 : Nat → Int) (one7 : Int) (two8 : Int) (x9 : Int) :
    xcode (E44 N) ents impl_Coalgebra_isFault.kp 2 N (cL (cK (cB (cA (cB (cB impl_Coalgebra_isFault.bd)))))) 0 (impl_Coalgebra_isFault.st0 i0 j1 k2 lv3 gv4 gv5 rv6 one7 two8 x9) (roundK impl_Coalgebra_isFault.kp 2 0 L0 (mixK (impl_Coalgebra_isFault.fin N K gv4 gv5 .ret) kv)) = (impl_Coalgebra_isFault.b0 N (fun d0 => K (.bool (d0)) [⟨false, .flat 2 (.ints .i64 gv4)⟩, ⟨false, .flat 520 (.ints .u8 gv5)⟩]) (fun one7 two8 x9 => L0 (impl_Coalgebra_isFault.st0 i0 j1 k2 lv3 gv4 gv5 rv6 one7 two8 x9)) (fun ov10 ov11 => kv (.exit 0) (impl_Coalgebra_isFault.sx0_0 gv4 gv5 rv6 ov10 ov11)) i0 j1 k2 lv3 gv5 rv6 one7 two8 x9) := by kernel_rfl
theorem impl_Coalgebra_isFault.b0_eq {ρ : Type} (N : Nat) (K : AV → Heap → Option ρ) (L0 : St → Option ρ) (i0 : Int) (j1 : Int) (k2 : Int) (lv3 : Int) (gv4 : Nat → Int) (gv5 : Nat → Int) (rv6 : Nat → Int) (one7 : Int) (two8 : Int) (x9 : Int) :
    xcode (E44 N) ents impl_Coalgebra_isFault.kp 2 N (cL (cK (cB (cA (cB (cB impl_Coalgebra_isFault.bd)))))) 0 (impl_Coalgebra_isFault.st0 i0 j1 k2 lv3 gv4 gv5 rv6 one7 two8 x9) (roundK impl_Coalgebra_isFault.kp 2 0 L0 (impl_Coalgebra_isFault.k0 N K gv4 gv5)) = (impl_Coalgebra_isFault.b0 N (fun d0 => K (.bool (d0)) [⟨false, .flat 2 (.ints .i64 gv4)⟩, ⟨false, .flat 520 (.ints .u8 gv5)⟩]) (fun one7 two8 x9 => L0 (impl_Coalgebra_isFault.st0 i0 j1 k2 lv3 gv4 gv5 rv6 one7 two8 x9)) (fun ov10 ov11 => (impl_Coalgebra_isFault.k0 N K gv4 gv5) (.exit 0) (impl_Coalgebra_isFault.sx0_0 gv4 gv5 rv6 ov10 ov11)) i0 j1 k2 lv3 gv5 rv6 one7 two8 x9) := by
  have h := impl_Coalgebra_isFault.b0_gen N K L0 (impl_Coalgebra_isFault.k0 N K gv4 gv5) i0 j1 k2 lv3 gv4 gv5 rv6 one7 two8 x9
  rw [impl_Coalgebra_isFault.k0_mix] at h
  exact h
theorem impl_Coalgebra_isFault.a0_0_eq {ρ : Type} (N : Nat) (K : AV → Heap → Option ρ) (gv4 : Nat → Int) (gv5 : Nat → Int) (rv6 : Nat → Int) (ov10 : Int) (ov11 : Int) :
    (impl_Coalgebra_isFault.k0 N K gv4 gv5) (.exit 0) (impl_Coalgebra_isFault.sx0_0 gv4 gv5 rv6 ov10 ov11) = (impl_Coalgebra_isFault.a0_0 N (fun d0 => K (.bool (d0)) [⟨false, .flat 2 (.ints .i64 gv4)⟩, ⟨false, .flat 520 (.ints .u8 gv5)⟩]) rv6 ov10 ov11) := by kernel_rfl
theorem impl_Coalgebra_isFault.l0_eq {ρ : Type} (N : Nat) (K : AV → Heap → Option ρ) (i0 : Int) (j1 : Int) (k2 : Int) (lv3 : Int) (gv4 : Nat → Int) (gv5 : Nat → Int) (rv6 : Nat → Int) :
    ∀ (m : Nat) (one7 : Int) (two8 : Int) (x9 : Int), xloop (xcode (E44 N) ents impl_Coalgebra_isFault.kp 2 N (cL (cK (cB (cA (cB (cB impl_Coalgebra_isFault.bd)))))) 0) impl_Coalgebra_isFault.kp 2 0 m (impl_Coalgebra_isFault.st0 i0 j1 k2 lv3 gv4 gv5 rv6 one7 two8 x9) (impl_Coalgebra_isFault.k0 N K gv4 gv5) = (impl_Coalgebra_isFault.l0 N (fun d0 => K (.bool (d0)) [⟨false, .flat 2 (.ints .i64 gv4)⟩, ⟨false, .flat 520 (.ints .u8 gv5)⟩]) i0 j1 k2 lv3 gv5 rv6 (fun ov10 ov11 => (impl_Coalgebra_isFault.k0 N K gv4 gv5) (.exit 0) (impl_Coalgebra_isFault.sx0_0 gv4 gv5 rv6 ov10 ov11)) m one7 two8 x9) := by
  intro m
  induction m with
  | zero => intros; rfl
  | succ m ih =>
    intro one7 two8 x9
    refine (impl_Coalgebra_isFault.b0_eq N K (fun s => xloop (xcode (E44 N) ents impl_Coalgebra_isFault.kp 2 N (cL (cK (cB (cA (cB (cB impl_Coalgebra_isFault.bd)))))) 0) impl_Coalgebra_isFault.kp 2 0 m s (impl_Coalgebra_isFault.k0 N K gv4 gv5)) i0 j1 k2 lv3 gv4 gv5 rv6 one7 two8 x9).trans ?_
    simp only [ih]
    kernel_rfl
theorem impl_Coalgebra_isFault.s_eq {ρ : Type} (N : Nat) (K : AV → Heap → Option ρ) (i0 : Int) (j1 : Int) (k2 : Int) (lv3 : Int) (gv4 : Nat → Int) (gv5 : Nat → Int) :
    xbody (E44 N) ents impl_Coalgebra_isFault.kp N Try.f99 impl_Coalgebra_isFault.bd [.sptr [(0, 2), (1, 520)], .int .i64 (i0), .int .i64 (j1), .int .i64 (k2), .int .i64 (lv3)] [⟨false, .flat 2 (.ints .i64 gv4)⟩, ⟨false, .flat 520 (.ints .u8 gv5)⟩] K = (impl_Coalgebra_isFault.s N (fun d0 => K (.bool (d0)) [⟨false, .flat 2 (.ints .i64 gv4)⟩, ⟨false, .flat 520 (.ints .u8 gv5)⟩]) (fun rv6 one7 two8 x9 => xloop (xcode (E44 N) ents impl_Coalgebra_isFault.kp 2 N (cL (cK (cB (cA (cB (cB impl_Coalgebra_isFault.bd)))))) 0) impl_Coalgebra_isFault.kp 2 0 N (impl_Coalgebra_isFault.st0 i0 j1 k2 lv3 gv4 gv5 rv6 one7 two8 x9) (impl_Coalgebra_isFault.k0 N K gv4 gv5)) gv4 gv5) := by kernel_rfl
theorem impl_Coalgebra_isFault.eq {ρ : Type} (N : Nat) (K : AV → Heap → Option ρ) (i0 : Int) (j1 : Int) (k2 : Int) (lv3 : Int) (gv4 : Nat → Int) (gv5 : Nat → Int) :
    xbody (E44 N) ents impl_Coalgebra_isFault.kp N Try.f99 impl_Coalgebra_isFault.bd [.sptr [(0, 2), (1, 520)], .int .i64 (i0), .int .i64 (j1), .int .i64 (k2), .int .i64 (lv3)] [⟨false, .flat 2 (.ints .i64 gv4)⟩, ⟨false, .flat 520 (.ints .u8 gv5)⟩] K = (impl_Coalgebra_isFault N (fun d0 => K (.bool (d0)) [⟨false, .flat 2 (.ints .i64 gv4)⟩, ⟨false, .flat 520 (.ints .u8 gv5)⟩]) i0 j1 k2 lv3 gv4 gv5) := by
  refine (impl_Coalgebra_isFault.s_eq N K i0 j1 k2 lv3 gv4 gv5).trans ?_
  simp only [impl_Coalgebra_isFault.l0_eq, impl_Coalgebra_isFault.a0_0_eq]
  kernel_rfl
def impl_Coalgebra_isFault.en (N : Nat) (ρ : Type) : List AV → Heap → (AV → Heap → Option ρ) → Option ρ
  | [.sptr [(0, 2), (1, 520)], .int .i64 (i0), .int .i64 (j1), .int .i64 (k2), .int .i64 (lv3)], [⟨false, .flat 2 (.ints .i64 gv4)⟩, ⟨false, .flat 520 (.ints .u8 gv5)⟩], K => (impl_Coalgebra_isFault N (fun d0 => K (.bool (d0)) [⟨false, .flat 2 (.ints .i64 gv4)⟩, ⟨false, .flat 520 (.ints .u8 gv5)⟩]) i0 j1 k2 lv3 gv4 gv5)
  | _, _, _ => none
theorem impl_Coalgebra_isFault.en_ok (N : Nat) (hE : EnvOk (E44 N) ents) (ρ : Type) (args : List AV) (sh : Heap) (K : AV → Heap → Option ρ) (r : ρ) (h : impl_Coalgebra_isFault.en N ρ args sh K = some r) : ∃ v sh', K v sh' = some r ∧ FnOk (E44 N).P 99 args sh v sh' := by
  unfold impl_Coalgebra_isFault.en at h
  split at h
  · exact fn_ok hE (kp := impl_Coalgebra_isFault.kp) (N := N) Try.func99 (c := impl_Coalgebra_isFault.bd) (by kernel_rfl) ((impl_Coalgebra_isFault.eq N _ _ _ _ _ _ _).trans h)
  · cases h
def E45 (N : Nat) : Env := (E44 N).add 99 (impl_Coalgebra_isFault.en N)
theorem E45_ok (N : Nat) : EnvOk (E45 N) ents := Env.add_ok (E44_ok N) (impl_Coalgebra_isFault.en_ok N (E44_ok N))
def impl_Coalgebra_fault.kp : Keeps := ⟨[(0, [0, 3, 19, 20], [], [])], [(0, [], [], [])], []⟩
def impl_Coalgebra_fault.bd : Code := bodyOf Try.f57
def impl_Coalgebra_fault.fin {ρ : Type} (N : Nat) (K : AV → Heap → Option ρ) (gv0 : Nat → Int) (gv1 : Nat → Int) : XE → St → Option ρ := finK (E45 N) impl_Coalgebra_fault.kp.fins Try.f57 [⟨false, .flat 2 (.ints .i64 gv0)⟩, ⟨false, .flat 520 (.ints .u8 gv1)⟩] K
def impl_Coalgebra_fault.k0 {ρ : Type} (N : Nat) (K : AV → Heap → Option ρ) (gv0 : Nat → Int) (gv1 : Nat → Int) : XE → St → Option ρ := (blockK impl_Coalgebra_fault.kp 2 0 (seqK (xcode (E45 N) ents impl_Coalgebra_fault.kp 2 N (cB (cB (cB impl_Coalgebra_fault.bd))) 0) (impl_Coalgebra_fault.fin N K gv0 gv1)))
theorem impl_Coalgebra_fault.k0_mix {ρ : Type} (N : Nat) (K : AV → Heap → Option ρ) (gv0 : Nat → Int) (gv1 : Nat → Int) : mixK (impl_Coalgebra_fault.fin N K gv0 gv1 .ret) (impl_Coalgebra_fault.k0 N K gv0 gv1) = (impl_Coalgebra_fault.k0 N K gv0 gv1) := by
  funext e s; cases e <;> kernel_rfl
def impl_Coalgebra_fault.st0 (gv0 : Nat → Int) (gv1 : Nat → Int) (x2 : Int) : St := ⟨sl 57 [(0, .sptr [(0, 2), (1, 520)]), (3, .int .i64 ((gv0 1))), (19, .int .i64 ((IntKind.i64.wrap ((IntKind.i64.wrap ((IntKind.i64.wrap ((gv0 1) * (gv0 1))) * (gv0 1))) * (gv0 1))))), (20, .int .i64 (x2))], [⟨false, .flat 2 (.ints .i64 gv0)⟩, ⟨false, .flat 520 (.ints .u8 gv1)⟩]⟩
def impl_Coalgebra_fault.sx0_0 (gv0 : Nat → Int) (gv1 : Nat → Int) : St := ⟨sl 57 [], [⟨false, .flat 2 (.ints .i64 gv0)⟩, ⟨false, .flat 520 (.ints .u8 gv1)⟩]⟩
theorem impl_Coalgebra_fault.b0_gen {ρ : Type} (N : Nat) (K : AV → Heap → Option ρ) (L0 : St → Option ρ) (kv : XE → St → Option ρ) (gv0 : Nat → Int) (gv1 : Nat → Int) (x2 : Int) :
    xcode (E45 N) ents impl_Coalgebra_fault.kp 2 N (cL (cK (cB (cA (cB (cB impl_Coalgebra_fault.bd)))))) 0 (impl_Coalgebra_fault.st0 gv0 gv1 x2) (roundK impl_Coalgebra_fault.kp 2 0 L0 (mixK (impl_Coalgebra_fault.fin N K gv0 gv1 .ret) kv)) = (impl_Coalgebra_fault.b0 N (fun d0 d1 d2 => K (.slice true 2 0 d0 (.exact d1) 1) [⟨false, .flat 2 (.ints .i64 gv0)⟩, ⟨false, .flat 520 (.ints .u8 gv1)⟩, ⟨true, .flat 4 (.ints .i64 d2)⟩]) (K (.nils) [⟨false, .flat 2 (.ints .i64 gv0)⟩, ⟨false, .flat 520 (.ints .u8 gv1)⟩]) (fun x2 => L0 (impl_Coalgebra_fault.st0 gv0 gv1 x2)) (kv (.exit 0) (impl_Coalgebra_fault.sx0_0 gv0 gv1)) gv0 gv1 x2) := by kernel_rfl
theorem impl_Coalgebra_fault.b0_eq {ρ : Type} (N : Nat) (K : AV → Heap → Option ρ) (L0 : St → Option ρ) (gv0 : Nat → Int) (gv1 : Nat → Int) (x2 : Int) :
    xcode (E45 N) ents impl_Coalgebra_fault.kp 2 N (cL (cK (cB (cA (cB (cB impl_Coalgebra_fault.bd)))))) 0 (impl_Coalgebra_fault.st0 gv0 gv1 x2) (roundK impl_Coalgebra_fault.kp 2 0 L0 (impl_Coalgebra_fault.k0 N K gv0 gv1)) = (impl_Coalgebra_fault.b0 N (fun d0 d1 d2 => K (.slice true 2 0 d0 (.exact d1) 1) [⟨false, .flat 2 (.ints .i64 gv0)⟩, ⟨false, .flat 520 (.ints .u8 gv1)⟩, ⟨true, .flat 4 (.ints .i64 d2)⟩]) (K (.nils) [⟨false, .flat 2 (.ints .i64 gv0)⟩, ⟨false, .flat 520 (.ints .u8 gv1)⟩]) (fun x2 => L0 (impl_Coalgebra_fault.st0 gv0 gv1 x2)) ((impl_Coalgebra_fault.k0 N K gv0 gv1) (.exit 0) (impl_Coalgebra_fault.sx0_0 gv0 gv1)) gv0 gv1 x2) := by
  have h := impl_Coalgebra_fault.b0_gen N K L0 (impl_Coalgebra_fault.k0 N K gv0 gv1) gv0 gv1 x2
  rw [impl_Coalgebra_fault.k0_mix] at h
  exact h
theorem impl_Coalgebra_fault.a0_0_eq {ρ : Type} (N : Nat) (K : AV → Heap → Option ρ) (gv0 : Nat → Int) (gv1 : Nat → Int) :
    (impl_Coalgebra_fault.k0 N K gv0 gv1) (.exit 0) (impl_Coalgebra_fault.sx0_0 gv0 gv1) = (impl_Coalgebra_fault.a0_0 N (fun d0 d1 d2 => K (.slice true 2 0 d0 (.exact d1) 1) [⟨false, .flat 2 (.ints .i64 gv0)⟩, ⟨false, .flat 520 (.ints .u8 gv1)⟩, ⟨true, .flat 4 (.ints .i64 d2)⟩]) (K (.nils) [⟨false, .flat 2 (.ints .i64 gv0)⟩, ⟨false, .flat 520 (.ints .u8 gv1)⟩])) := by kernel_rfl
theorem impl_Coalgebra_fault.l0_eq {ρ : Type} (N : Nat) (K : AV → Heap → Option ρ) (gv0 : Nat → Int) (gv1 : Nat → Int) :
    ∀ (m : Nat) (x2 : Int), xloop (xcode (E45 N) ents impl_Coalgebra_fault.kp 2 N (cL (cK (cB (cA (cB (cB impl_Coalgebra_fault.bd)))))) 0) impl_Coalgebra_fault.kp 2 0 m (impl_Coalgebra_fault.st0 gv0 gv1 x2) (impl_Coalgebra_fault.k0 N K gv0 gv1) = (impl_Coalgebra_fault.l0 N (fun d0 d1 d2 => K (.slice true 2 0 d0 (.exact d1) 1) [⟨false, .flat 2 (.ints .i64 gv0)⟩, ⟨false, .flat 520 (.ints .u8 gv1)⟩, ⟨true, .flat 4 (.ints .i64 d2)⟩]) (K (.nils) [⟨false, .flat 2 (.ints .i64 gv0)⟩, ⟨false, .flat 520 (.ints .u8 gv1)⟩]) gv0 gv1 ((impl_Coalgebra_fault.k0 N K gv0 gv1) (.exit 0) (impl_Coalgebra_fault.sx0_0 gv0 gv1)) m x2) := by
  intro m
  induction m with
  | zero => intros; rfl
  | succ m ih =>
    intro x2
    refine (impl_Coalgebra_fault.b0_eq N K (fun s => xloop (xcode (E45 N) ents impl_Coalgebra_fault.kp 2 N (cL (cK (cB (cA (cB (cB impl_Coalgebra_fault.bd)))))) 0) impl_Coalgebra_fault.kp 2 0 m s (impl_Coalgebra_fault.k0 N K gv0 gv1)) gv0 gv1 x2).trans ?_
    simp only [ih]
    kernel_rfl
theorem impl_Coalgebra_fault.s_eq {ρ : Type} (N : Nat) (K : AV → Heap → Option ρ) (gv0 : Nat → Int) (gv1 : Nat → Int) :
    xbody (E45 N) ents impl_Coalgebra_fault.kp N Try.f57 impl_Coalgebra_fault.bd [.sptr [(0, 2), (1, 520)]] [⟨false, .flat 2 (.ints .i64 gv0)⟩, ⟨false, .flat 520 (.ints .u8 gv1)⟩] K = (impl_Coalgebra_fault.s N (fun d0 d1 d2 => K (.slice true 2 0 d0 (.exact d1) 1) [⟨false, .flat 2 (.ints .i64 gv0)⟩, ⟨false, .flat 520 (.ints .u8 gv1)⟩, ⟨true, .flat 4 (.ints .i64 d2)⟩]) (K (.nils) [⟨false, .flat 2 (.ints .i64 gv0)⟩, ⟨false, .flat 520 (.ints .u8 gv1)⟩]) (fun x2 => xloop (xcode (E45 N) ents impl_Coalgebra_fault.kp 2 N (cL (cK (cB (cA (cB (cB impl_Coalgebra_fault.bd)))))) 0) impl_Coalgebra_fault.kp 2 0 N (impl_Coalgebra_fault.st0 gv0 gv1 x2) (impl_Coalgebra_fault.k0 N K gv0 gv1))) := by kernel_rfl
theorem impl_Coalgebra_fault.eq {ρ : Type} (N : Nat) (K : AV → Heap → Option ρ) (gv0 : Nat → Int) (gv1 : Nat → Int) :
    xbody (E45 N) ents impl_Coalgebra_fault.kp N Try.f57 impl_Coalgebra_fault.bd [.sptr [(0, 2), (1, 520)]] [⟨false, .flat 2 (.ints .i64 gv0)⟩, ⟨false, .flat 520 (.ints .u8 gv1)⟩] K = (impl_Coalgebra_fault N (fun d0 d1 d2 => K (.slice true 2 0 d0 (.exact d1) 1) [⟨false, .flat 2 (.ints .i64 gv0)⟩, ⟨false, .flat 520 (.ints .u8 gv1)⟩, ⟨true, .flat 4 (.ints .i64 d2)⟩]) (K (.nils) [⟨false, .flat 2 (.ints .i64 gv0)⟩, ⟨false, .flat 520 (.ints .u8 gv1)⟩]) gv0 gv1) := by
  refine (impl_Coalgebra_fault.s_eq N K gv0 gv1).trans ?_
  simp only [impl_Coalgebra_fault.l0_eq, impl_Coalgebra_fault.a0_0_eq]
  kernel_rfl
def impl_Coalgebra_fault.en (N : Nat) (ρ : Type) : List AV → Heap → (AV → Heap → Option ρ) → Option ρ
  | [.sptr [(0, 2), (1, 520)]], [⟨false, .flat 2 (.ints .i64 gv0)⟩, ⟨false, .flat 520 (.ints .u8 gv1)⟩], K => (impl_Coalgebra_fault N (fun d0 d1 d2 => K (.slice true 2 0 d0 (.exact d1) 1) [⟨false, .flat 2 (.ints .i64 gv0)⟩, ⟨false, .flat 520 (.ints .u8 gv1)⟩, ⟨true, .flat 4 (.ints .i64 d2)⟩]) (K (.nils) [⟨false, .flat 2 (.ints .i64 gv0)⟩, ⟨false, .flat 520 (.ints .u8 gv1)⟩]) gv0 gv1)
  | _, _, _ => none
theorem impl_Coalgebra_fault.en_ok (N : Nat) (hE : EnvOk (E45 N) ents) (ρ : Type) (args : List AV) (sh : Heap) (K : AV → Heap → Option ρ) (r : ρ) (h : impl_Coalgebra_fault.en N ρ args sh K = some r) : ∃ v sh', K v sh' = some r ∧ FnOk (E45 N).P 57 args sh v sh' := by
  unfold impl_Coalgebra_fault.en at h
  split at h
  · exact fn_ok hE (kp := impl_Coalgebra_fault.kp) (N := N) Try.func57 (c := impl_Coalgebra_fault.bd) (by kernel_rfl) ((impl_Coalgebra_fault.eq N _ _ _).trans h)
  · cases h
def E46 (N : Nat) : Env := (E45 N).add 57 (impl_Coalgebra_fault.en N)
theorem E46_ok (N : Nat) : EnvOk (E46 N) ents := Env.add_ok (E45_ok N) (impl_Coalgebra_fault.en_ok N (E45_ok N))
def impl_IsCoalgebra.kp : Keeps := ⟨[], [], []⟩
def impl_IsCoalgebra.bd : Code := bodyOf Try.f17
def impl_IsCoalgebra.fin {ρ : Type} (N : Nat) (K : AV → Heap → Option ρ) : XE → St → Option ρ := finK (E46 N) impl_IsCoalgebra.kp.fins Try.f17 [] K
theorem impl_IsCoalgebra.eq {ρ : Type} (N : Nat) (K : AV → Heap → Option ρ) (c0 : Nat → Int) (c1 : Nat → Int) :
    xbody (E46 N) ents impl_IsCoalgebra.kp N Try.f17 impl_IsCoalgebra.bd [.agg [⟨.i64, 2, c0⟩, ⟨.u8, 520, c1⟩]] [] K = (impl_IsCoalgebra N (fun d0 => K (.bool (d0)) []) c0 c1) := by kernel_rfl
def impl_IsCoalgebra.en (N : Nat) (ρ : Type) : List AV → Heap → (AV → Heap → Option ρ) → Option ρ
  | [.agg [⟨.i64, 2, c0⟩, ⟨.u8, 520, c1⟩]], [], K => (impl_IsCoalgebra N (fun d0 => K (.bool (d0)) []) c0 c1)
  | _, _, _ => none
theorem impl_IsCoalgebra.en_ok (N : Nat) (hE : EnvOk (E46 N) ents) (ρ : Type) (args : List AV) (sh : Heap) (K : AV → Heap → Option ρ) (r : ρ) (h : impl_IsCoalgebra.en N ρ args sh K = some r) : ∃ v sh', K v sh' = some r ∧ FnOk (E46 N).P 17 args sh v sh' := by
  unfold impl_IsCoalgebra.en at h
  split at h
  · exact fn_ok hE (kp := impl_IsCoalgebra.kp) (N := N) Try.func17 (c := impl_IsCoalgebra.bd) (by kernel_rfl) ((impl_IsCoalgebra.eq N _ _ _).trans h)
  · cases h
def E47 (N : Nat) : Env := (E46 N).add 17 (impl_IsCoalgebra.en N)
theorem E47_ok (N : Nat) : EnvOk (E47 N) ents := Env.add_ok (E46_ok N) (impl_IsCoalgebra.en_ok N (E46_ok N))
def impl_Coalgebra_has_c1.kp : Keeps := ⟨[], [], []⟩
def impl_Coalgebra_has_c1.bd : Code := bodyOf Try.f132
def impl_Coalgebra_has_c1.fin {ρ : Type} (N : Nat) (K : AV → Heap → Option ρ) (gv1 : Nat → Int) (gv2 : Nat → Int) : XE → St → Option ρ := finK (E47 N) impl_Coalgebra_has_c1.kp.fins Try.f132 [⟨false, .avs [.sptr [(1, 2), (2, 520)]]⟩, ⟨false, .flat 2 (.ints .i64 gv1)⟩, ⟨false, .flat 520 (.ints .u8 gv2)⟩] K
theorem impl_Coalgebra_has_c1.eq {ρ : Type} (N : Nat) (K : AV → Heap → Option ρ) (v0 : Nat → Int) (gv1 : Nat → Int) (gv2 : Nat → Int) :
    xbody (E47 N) ents impl_Coalgebra_has_c1.kp N Try.f132 impl_Coalgebra_has_c1.bd [.agg [⟨.u8, 8, v0⟩], .sptr [(0, 1)]] [⟨false, .avs [.sptr [(1, 2), (2, 520)]]⟩, ⟨false, .flat 2 (.ints .i64 gv1)⟩, ⟨false, .flat 520 (.ints .u8 gv2)⟩] K = (impl_Coalgebra_has_c1 N (fun d0 => K (.bool (d0)) [⟨false, .avs [.sptr [(1, 2), (2, 520)]]⟩, ⟨false, .flat 2 (.ints .i64 gv1)⟩, ⟨false, .flat 520 (.ints .u8 gv2)⟩]) v0 gv1 gv2) := by kernel_rfl
def impl_Coalgebra_has_c1.en (N : Nat) (ρ : Type) : List AV → Heap → (AV → Heap → Option ρ) → Option ρ
  | [.agg [⟨.u8, 8, v0⟩], .sptr [(0, 1)]], [⟨false, .avs [.sptr [(1, 2), (2, 520)]]⟩, ⟨false, .flat 2 (.ints .i64 gv1)⟩, ⟨false, .flat 520 (.ints .u8 gv2)⟩], K => (impl_Coalgebra_has_c1 N (fun d0 => K (.bool (d0)) [⟨false, .avs [.sptr [(1, 2), (2, 520)]]⟩, ⟨false, .flat 2 (.ints .i64 gv1)⟩, ⟨false, .flat 520 (.ints .u8 gv2)⟩]) v0 gv1 gv2)
  | _, _, _ => none
theorem impl_Coalgebra_has_c1.en_ok (N : Nat) (hE : EnvOk (E47 N) ents) (ρ : Type) (args : List AV) (sh : Heap) (K : AV → Heap → Option ρ) (r : ρ) (h : impl_Coalgebra_has_c1.en N ρ args sh K = some r) : ∃ v sh', K v sh' = some r ∧ FnOk (E47 N).P 132 args sh v sh' := by
  unfold impl_Coalgebra_has_c1.en at h
  split at h
  · exact fn_ok hE (kp := impl_Coalgebra_has_c1.kp) (N := N) Try.func132 (c := impl_Coalgebra_has_c1.bd) (by kernel_rfl) ((impl_Coalgebra_has_c1.eq N _ _ _ _).trans h)
  · cases h
def E48 (N : Nat) : Env := (E47 N).add 132 (impl_Coalgebra_has_c1.en N)
theorem E48_ok (N : Nat) : EnvOk (E48 N) ents := Env.add_ok (E47_ok N) (impl_Coalgebra_has_c1.en_ok N (E47_ok N))
def slices_IndexFunc_sf.kp : Keeps := ⟨[(0, [0, 1, 7, 8], [], [])], [(0, [], [], [])], []⟩
def slices_IndexFunc_sf.bd : Code := bodyOf Try.f146
def slices_IndexFunc_sf.fin {ρ : Type} (N : Nat) (K : AV → Heap → Option ρ) (gv2 : Nat) (gv3 : Nat → Int) (gv4 : Nat → Int) (gv5 : Nat → Int) : XE → St → Option ρ := finK (E48 N) slices_IndexFunc_sf.kp.fins Try.f146 [⟨false, .flat gv2 (.ints .u8 gv3)⟩, ⟨false, .avs [.sptr [(2, 2), (3, 520)]]⟩, ⟨false, .flat 2 (.ints .i64 gv4)⟩, ⟨false, .flat 520 (.ints .u8 gv5)⟩] K
def slices_IndexFunc_sf.k0 {ρ : Type} (N : Nat) (K : AV → Heap → Option ρ) (gv2 : Nat) (gv3 : Nat → Int) (gv4 : Nat → Int) (gv5 : Nat → Int) : XE → St → Option ρ := (blockK slices_IndexFunc_sf.kp 4 0 (seqK (xcode (E48 N) ents slices_IndexFunc_sf.kp 4 N (cB (cB slices_IndexFunc_sf.bd)) 0) (slices_IndexFunc_sf.fin N K gv2 gv3 gv4 gv5)))
theorem slices_IndexFunc_sf.k0_mix {ρ : Type} (N : Nat) (K : AV → Heap → Option ρ) (gv2 : Nat) (gv3 : Nat → Int) (gv4 : Nat → Int) (gv5 : Nat → Int) : mixK (slices_IndexFunc_sf.fin N K gv2 gv3 gv4 gv5 .ret) (slices_IndexFunc_sf.k0 N K gv2 gv3 gv4 gv5) = (slices_IndexFunc_sf.k0 N K gv2 gv3 gv4 gv5) := by
  funext e s; cases e <;> kernel_rfl
def slices_IndexFunc_sf.st0 (s0 : Nat) (s1 : Nat) (gv2 : Nat) (gv3 : Nat → Int) (gv4 : Nat → Int) (gv5 : Nat → Int) (x6 : Int) : St := ⟨sl 19 [(0, .slice true 0 0 s0 (.exact s1) 8), (1, .fn 132 0 [[(1, 1)]]), (7, .int .i64 ((s0 : Int))), (8, .int .i64 (x6))], [⟨false, .flat gv2 (.ints .u8 gv3)⟩, ⟨false, .avs [.sptr [(2, 2), (3, 520)]]⟩, ⟨false, .flat 2 (.ints .i64 gv4)⟩, ⟨false, .flat 520 (.ints .u8 gv5)⟩]⟩
def slices_IndexFunc_sf.sx0_0 (gv2 : Nat) (gv3 : Nat → Int) (gv4 : Nat → Int) (gv5 : Nat → Int) : St := ⟨sl 19 [], [⟨false, .flat gv2 (.ints .u8 gv3)⟩, ⟨false, .avs [.sptr [(2, 2), (3, 520)]]⟩, ⟨false, .flat 2 (.ints .i64 gv4)⟩, ⟨false, .flat 520 (.ints .u8 gv5)⟩]⟩
theorem slices_IndexFunc_sf.b0_gen {ρ : Type} (N : Nat) (K : AV → Heap → Option ρ) (L0 : St → Option ρ) (kv : XE → St → Option ρ) (s0 : Nat) (s1 : Nat) (gv2 : Nat) (gv3 : Nat → Int) (gv4 : Nat → Int) (gv5 : Nat → Int) (x6 : Int) :
    xcode (E48 N) ents slices_IndexFunc_sf.kp 4 N (cL (cK (cB (cA (cB slices_IndexFunc_sf.bd))))) 0 (slices_IndexFunc_sf.st0 s0 s1 gv2 gv3 gv4 gv5 x6) (roundK slices_IndexFunc_sf.kp 4 0 L0 (mixK (slices_IndexFunc_sf.fin N K gv2 gv3 gv4 gv5 .ret) kv)) = (slices_IndexFunc_sf.b0 N (fun d0 => K (.int .i64 (d0)) [⟨false, .flat gv2 (.ints .u8 gv3)⟩, ⟨false, .avs [.sptr [(2, 2), (3, 520)]]⟩, ⟨false, .flat 2 (.ints .i64 gv4)⟩, ⟨false, .flat 520 (.ints .u8 gv5)⟩]) (fun x6 => L0 (slices_IndexFunc_sf.st0 s0 s1 gv2 gv3 gv4 gv5 x6)) (kv (.exit 0) (slices_IndexFunc_sf.sx0_0 gv2 gv3 gv4 gv5)) s0 gv3 gv4 gv5 x6) := by kernel_rfl
theorem slices_IndexFunc_sf.b0_eq {ρ : Type} (N : Nat) (K : AV → Heap → Option ρ) (L0 : St → Option ρ) (s0 : Nat) (s1 : Nat) (gv2 : Nat) (gv3 : Nat → Int) (gv4 : Nat → Int) (gv5 : Nat → Int) (x6 : Int) :
    xcode (E48 N) ents slices_IndexFunc_sf.kp 4 N (cL (cK (cB (cA (cB slices_IndexFunc_sf.bd))))) 0 (slices_IndexFunc_sf.st0 s0 s1 gv2 gv3 gv4 gv5 x6) (roundK slices_IndexFunc_sf.kp 4 0 L0 (slices_IndexFunc_sf.k0 N K gv2 gv3 gv4 gv5)) = (slices_IndexFunc_sf.b0 N (fun d0 => K (.int .i64 (d0)) [⟨false, .flat gv2 (.ints .u8 gv3)⟩, ⟨false, .avs [.sptr [(2, 2), (3, 520)]]⟩, ⟨false, .flat 2 (.ints .i64 gv4)⟩, ⟨false, .flat 520 (.ints .u8 gv5)⟩]) (fun x6 => L0 (slices_IndexFunc_sf.st0 s0 s1 gv2 gv3 gv4 gv5 x6)) ((slices_IndexFunc_sf.k0 N K gv2 gv3 gv4 gv5) (.exit 0) (slices_IndexFunc_sf.sx0_0 gv2 gv3 gv4 gv5)) s0 gv3 gv4 gv5 x6) := by
  have h := slices_IndexFunc_sf.b0_gen N K L0 (slices_IndexFunc_sf.k0 N K gv2 gv3 gv4 gv5) s0 s1 gv2 gv3 gv4 gv5 x6
  rw [slices_IndexFunc_sf.k0_mix] at h
  exact h
theorem slices_IndexFunc_sf.a0_0_eq {ρ : Type} (N : Nat) (K : AV → Heap → Option ρ) (gv2 : Nat) (gv3 : Nat → Int) (gv4 : Nat → Int) (gv5 : Nat → Int) :
    (slices_IndexFunc_sf.k0 N K gv2 gv3 gv4 gv5) (.exit 0) (slices_IndexFunc_sf.sx0_0 gv2 gv3 gv4 gv5) = (slices_IndexFunc_sf.a0_0 N (fun d0 => K (.int .i64 (d0)) [⟨false, .flat gv2 (.ints .u8 gv3)⟩, ⟨false, .avs [.sptr [(2, 2), (3, 520)]]⟩, ⟨false, .flat 2 (.ints .i64 gv4)⟩, ⟨false, .flat 520 (.ints .u8 gv5)⟩])) := by kernel_rfl
theorem slices_IndexFunc_sf.l0_eq {ρ : Type} (N : Nat) (K : AV → Heap → Option ρ) (s0 : Nat) (s1 : Nat) (gv2 : Nat) (gv3 : Nat → Int) (gv4 : Nat → Int) (gv5 : Nat → Int) :
    ∀ (m : Nat) (x6 : Int), xloop (xcode (E48 N) ents slices_IndexFunc_sf.kp 4 N (cL (cK (cB (cA (cB slices_IndexFunc_sf.bd))))) 0) slices_IndexFunc_sf.kp 4 0 m (slices_IndexFunc_sf.st0 s0 s1 gv2 gv3 gv4 gv5 x6) (slices_IndexFunc_sf.k0 N K gv2 gv3 gv4 gv5) = (slices_IndexFunc_sf.l0 N (fun d0 => K (.int .i64 (d0)) [⟨false, .flat gv2 (.ints .u8 gv3)⟩, ⟨false, .avs [.sptr [(2, 2), (3, 520)]]⟩, ⟨false, .flat 2 (.ints .i64 gv4)⟩, ⟨false, .flat 520 (.ints .u8 gv5)⟩]) s0 gv3 gv4 gv5 ((slices_IndexFunc_sf.k0 N K gv2 gv3 gv4 gv5) (.exit 0) (slices_IndexFunc_sf.sx0_0 gv2 gv3 gv4 gv5)) m x6) := by
  intro m
  induction m with
  | zero => intros; rfl
  | succ m ih =>
    intro x6
    refine (slices_IndexFunc_sf.b0_eq N K (fun s => xloop (xcode (E48 N) ents slices_IndexFunc_sf.kp 4 N (cL (cK (cB (cA (cB slices_IndexFunc_sf.bd))))) 0) slices_IndexFunc_sf.kp 4 0 m s (slices_IndexFunc_sf.k0 N K gv2 gv3 gv4 gv5)) s0 s1 gv2 gv3 gv4 gv5 x6).trans ?_
    simp only [ih]
    kernel_rfl
theorem slices_IndexFunc_sf.s_eq {ρ : Type} (N : Nat) (K : AV → Heap → Option ρ) (s0 : Nat) (s1 : Nat) (gv2 : Nat) (gv3 : Nat → Int) (gv4 : Nat → Int) (gv5 : Nat → Int) :
    xbody (E48 N) ents slices_IndexFunc_sf.kp N Try.f146 slices_IndexFunc_sf.bd [.slice true 0 0 s0 (.exact s1) 8, .fn 132 0 [[(1, 1)]]] [⟨false, .flat gv2 (.ints .u8 gv3)⟩, ⟨false, .avs [.sptr [(2, 2), (3, 520)]]⟩, ⟨false, .flat 2 (.ints .i64 gv4)⟩, ⟨false, .flat 520 (.ints .u8 gv5)⟩] K = (slices_IndexFunc_sf.s N (fun d0 => K (.int .i64 (d0)) [⟨false, .flat gv2 (.ints .u8 gv3)⟩, ⟨false, .avs [.sptr [(2, 2), (3, 520)]]⟩, ⟨false, .flat 2 (.ints .i64 gv4)⟩, ⟨false, .flat 520 (.ints .u8 gv5)⟩]) (fun x6 => xloop (xcode (E48 N) ents slices_IndexFunc_sf.kp 4 N (cL (cK (cB (cA (cB slices_IndexFunc_sf.bd))))) 0) slices_IndexFunc_sf.kp 4 0 N (slices_IndexFunc_sf.st0 s0 s1 gv2 gv3 gv4 gv5 x6) (slices_IndexFunc_sf.k0 N K gv2 gv3 gv4 gv5))) := by kernel_rfl
theorem slices_IndexFunc_sf.eq {ρ : Type} (N : Nat) (K : AV → Heap → Option ρ) (s0 : Nat) (s1 : Nat) (gv2 : Nat) (gv3 : Nat → Int) (gv4 : Nat → Int) (gv5 : Nat → Int) :
    xbody (E48 N) ents slices_IndexFunc_sf.kp N Try.f146 slices_IndexFunc_sf.bd [.slice true 0 0 s0 (.exact s1) 8, .fn 132 0 [[(1, 1)]]] [⟨false, .flat gv2 (.ints .u8 gv3)⟩, ⟨false, .avs [.sptr [(2, 2), (3, 520)]]⟩, ⟨false, .flat 2 (.ints .i64 gv4)⟩, ⟨false, .flat 520 (.ints .u8 gv5)⟩] K = (slices_IndexFunc_sf N (fun d0 => K (.int .i64 (d0)) [⟨false, .flat gv2 (.ints .u8 gv3)⟩, ⟨false, .avs [.sptr [(2, 2), (3, 520)]]⟩, ⟨false, .flat 2 (.ints .i64 gv4)⟩, ⟨false, .flat 520 (.ints .u8 gv5)⟩]) s0 s1 gv2 gv3 gv4 gv5) := by
  refine (slices_IndexFunc_sf.s_eq N K s0 s1 gv2 gv3 gv4 gv5).trans ?_
  simp only [slices_IndexFunc_sf.l0_eq, slices_IndexFunc_sf.a0_0_eq]
  kernel_rfl
def slices_IndexFunc_sf.en (N : Nat) (ρ : Type) : List AV → Heap → (AV → Heap → Option ρ) → Option ρ
  | [.slice true 0 0 s0 (.exact s1) 8, .fn 132 0 [[(1, 1)]]], [⟨false, .flat gv2 (.ints .u8 gv3)⟩, ⟨false, .avs [.sptr [(2, 2), (3, 520)]]⟩, ⟨false, .flat 2 (.ints .i64 gv4)⟩, ⟨false, .flat 520 (.ints .u8 gv5)⟩], K => (slices_IndexFunc_sf N (fun d0 => K (.int .i64 (d0)) [⟨false, .flat gv2 (.ints .u8 gv3)⟩, ⟨false, .avs [.sptr [(2, 2), (3, 520)]]⟩, ⟨false, .flat 2 (.ints .i64 gv4)⟩, ⟨false, .flat 520 (.ints .u8 gv5)⟩]) s0 s1 gv2 gv3 gv4 gv5)
  | _, _, _ => none
theorem slices_IndexFunc_sf.en_ok (N : Nat) (hE : EnvOk (E48 N) ents) (ρ : Type) (args : List AV) (sh : Heap) (K : AV → Heap → Option ρ) (r : ρ) (h : slices_IndexFunc_sf.en N ρ args sh K = some r) : ∃ v sh', K v sh' = some r ∧ FnOk (E48 N).P 146 args sh v sh' := by
  unfold slices_IndexFunc_sf.en at h
  split at h
  · exact fn_ok hE (kp := slices_IndexFunc_sf.kp) (N := N) Try.func146 (c := slices_IndexFunc_sf.bd) (by kernel_rfl) ((slices_IndexFunc_sf.eq N _ _ _ _ _ _ _).trans h)
  · cases h
def E49 (N : Nat) : Env := (E48 N).add 146 (slices_IndexFunc_sf.en N)
theorem E49_ok (N : Nat) : EnvOk (E49 N) ents := Env.add_ok (E48_ok N) (slices_IndexFunc_sf.en_ok N (E48_ok N))
def slices_ContainsFunc_sf.kp : Keeps := ⟨[], [], []⟩
def slices_ContainsFunc_sf.bd : Code := bodyOf Try.f118
def slices_ContainsFunc_sf.fin {ρ : Type} (N : Nat) (K : AV → Heap → Option ρ) (gv2 : Nat) (gv3 : Nat → Int) (gv4 : Nat → Int) (gv5 : Nat → Int) : XE → St → Option ρ := finK (E49 N) slices_ContainsFunc_sf.kp.fins Try.f118 [⟨false, .flat gv2 (.ints .u8 gv3)⟩, ⟨false, .avs [.sptr [(2, 2), (3, 520)]]⟩, ⟨false, .flat 2 (.ints .i64 gv4)⟩, ⟨false, .flat 520 (.ints .u8 gv5)⟩] K
theorem slices_ContainsFunc_sf.eq {ρ : Type} (N : Nat) (K : AV → Heap → Option ρ) (s0 : Nat) (s1 : Nat) (gv2 : Nat) (gv3 : Nat → Int) (gv4 : Nat → Int) (gv5 : Nat → Int) :
    xbody (E49 N) ents slices_ContainsFunc_sf.kp N Try.f118 slices_ContainsFunc_sf.bd [.slice true 0 0 s0 (.exact s1) 8, .fn 132 0 [[(1, 1)]]] [⟨false, .flat gv2 (.ints .u8 gv3)⟩, ⟨false, .avs [.sptr [(2, 2), (3, 520)]]⟩, ⟨false, .flat 2 (.ints .i64 gv4)⟩, ⟨false, .flat 520 (.ints .u8 gv5)⟩] K = (slices_ContainsFunc_sf N (fun d0 => K (.bool (d0)) [⟨false, .flat gv2 (.ints .u8 gv3)⟩, ⟨false, .avs [.sptr [(2, 2), (3, 520)]]⟩, ⟨false, .flat 2 (.ints .i64 gv4)⟩, ⟨false, .flat 520 (.ints .u8 gv5)⟩]) s0 s1 gv2 gv3 gv4 gv5) := by kernel_rfl
def slices_ContainsFunc_sf.en (N : Nat) (ρ : Type) : List AV → Heap → (AV → Heap → Option ρ) → Option ρ
  | [.slice true 0 0 s0 (.exact s1) 8, .fn 132 0 [[(1, 1)]]], [⟨false, .flat gv2 (.ints .u8 gv3)⟩, ⟨false, .avs [.sptr [(2, 2), (3, 520)]]⟩, ⟨false, .flat 2 (.ints .i64 gv4)⟩, ⟨false, .flat 520 (.ints .u8 gv5)⟩], K => (slices_ContainsFunc_sf N (fun d0 => K (.bool (d0)) [⟨false, .flat gv2 (.ints .u8 gv3)⟩, ⟨false, .avs [.sptr [(2, 2), (3, 520)]]⟩, ⟨false, .flat 2 (.ints .i64 gv4)⟩, ⟨false, .flat 520 (.ints .u8 gv5)⟩]) s0 s1 gv2 gv3 gv4 gv5)
  | _, _, _ => none
theorem slices_ContainsFunc_sf.en_ok (N : Nat) (hE : EnvOk (E49 N) ents) (ρ : Type) (args : List AV) (sh : Heap) (K : AV → Heap → Option ρ) (r : ρ) (h : slices_ContainsFunc_sf.en N ρ args sh K = some r) : ∃ v sh', K v sh' = some r ∧ FnOk (E49 N).P 118 args sh v sh' := by
  unfold slices_ContainsFunc_sf.en at h
  split at h
  · exact fn_ok hE (kp := slices_ContainsFunc_sf.kp) (N := N) Try.func118 (c := slices_ContainsFunc_sf.bd) (by kernel_rfl) ((slices_ContainsFunc_sf.eq N _ _ _ _ _ _ _).trans h)
  · cases h
def E50 (N : Nat) : Env := (E49 N).add 118 (slices_ContainsFunc_sf.en N)
theorem E50_ok (N : Nat) : EnvOk (E50 N) ents := Env.add_ok (E49_ok N) (slices_ContainsFunc_sf.en_ok N (E49_ok N))
def impl_Coalgebra_has_s.kp : Keeps := ⟨[], [], []⟩
def impl_Coalgebra_has_s.bd : Code := bodyOf Try.f104
def impl_Coalgebra_has_s.fin {ρ : Type} (N : Nat) (K : AV → Heap → Option ρ) (gv2 : Nat → Int) (gv3 : Nat → Int) (gv4 : Nat) (gv5 : Nat → Int) : XE → St → Option ρ := finK (E50 N) impl_Coalgebra_has_s.kp.fins Try.f104 [⟨false, .flat 2 (.ints .i64 gv2)⟩, ⟨false, .flat 520 (.ints .u8 gv3)⟩, ⟨false, .flat gv4 (.ints .u8 gv5)⟩] K
theorem impl_Coalgebra_has_s.eq {ρ : Type} (N : Nat) (K : AV → Heap → Option ρ) (list0 : Nat) (list1 : Nat) (gv2 : Nat → Int) (gv3 : Nat → Int) (gv4 : Nat) (gv5 : Nat → Int) :
    xbody (E50 N) ents impl_Coalgebra_has_s.kp N Try.f104 impl_Coalgebra_has_s.bd [.sptr [(0, 2), (1, 520)], .slice true 2 0 list0 (.exact list1) 8] [⟨false, .flat 2 (.ints .i64 gv2)⟩, ⟨false, .flat 520 (.ints .u8 gv3)⟩, ⟨false, .flat gv4 (.ints .u8 gv5)⟩] K = (impl_Coalgebra_has_s N (fun d0 => K (.bool (d0)) [⟨false, .flat 2 (.ints .i64 gv2)⟩, ⟨false, .flat 520 (.ints .u8 gv3)⟩, ⟨false, .flat gv4 (.ints .u8 gv5)⟩]) list0 list1 gv2 gv3 gv4 gv5) := by kernel_rfl
def impl_Coalgebra_has_s.en (N : Nat) (ρ : Type) : List AV → Heap → (AV → Heap → Option ρ) → Option ρ
  | [.sptr [(0, 2), (1, 520)], .slice true 2 0 list0 (.exact list1) 8], [⟨false, .flat 2 (.ints .i64 gv2)⟩, ⟨false, .flat 520 (.ints .u8 gv3)⟩, ⟨false, .flat gv4 (.ints .u8 gv5)⟩], K => (impl_Coalgebra_has_s N (fun d0 => K (.bool (d0)) [⟨false, .flat 2 (.ints .i64 gv2)⟩, ⟨false, .flat 520 (.ints .u8 gv3)⟩, ⟨false, .flat gv4 (.ints .u8 gv5)⟩]) list0 list1 gv2 gv3 gv4 gv5)
  | _, _, _ => none
theorem impl_Coalgebra_has_s.en_ok (N : Nat) (hE : EnvOk (E50 N) ents) (ρ : Type) (args : List AV) (sh : Heap) (K : AV → Heap → Option ρ) (r : ρ) (h : impl_Coalgebra_has_s.en N ρ args sh K = some r) : ∃ v sh', K v sh' = some r ∧ FnOk (E50 N).P 104 args sh v sh' := by
  unfold impl_Coalgebra_has_s.en at h
  split at h
  · exact fn_ok hE (kp := impl_Coalgebra_has_s.kp) (N := N) Try.func104 (c := impl_Coalgebra_has_s.bd) (by kernel_rfl) ((impl_Coalgebra_has_s.eq N _ _ _ _ _ _ _).trans h)
  · cases h
def E51 (N : Nat) : Env := (E50 N).add 104 (impl_Coalgebra_has_s.en N)
theorem E51_ok (N : Nat) : EnvOk (E51 N) ents := Env.add_ok (E50_ok N) (impl_Coalgebra_has_s.en_ok N (E50_ok N))
def impl_unless.kp : Keeps := ⟨[], [], []⟩
def impl_unless.bd : Code := bodyOf Try.f60
def impl_unless.fin {ρ : Type} (N : Nat) (K : AV → Heap → Option ρ) : XE → St → Option ρ := finK (E51 N) impl_unless.kp.fins Try.f60 [] K
theorem impl_unless.eq {ρ : Type} (N : Nat) (K : AV → Heap → Option ρ) (so0 : Bool) (code1 : Int) :
    xbody (E51 N) ents impl_unless.kp N Try.f60 impl_unless.bd [.bool (so0), .int .i64 (code1)] [] K = (impl_unless N (fun d0 => K (.int .i64 (d0)) []) so0 code1) := by kernel_rfl
def impl_unless.en (N : Nat) (ρ : Type) : List AV → Heap → (AV → Heap → Option ρ) → Option ρ
  | [.bool (so0), .int .i64 (code1)], [], K => (impl_unless N (fun d0 => K (.int .i64 (d0)) []) so0 code1)
  | _, _, _ => none
theorem impl_unless.en_ok (N : Nat) (hE : EnvOk (E51 N) ents) (ρ : Type) (args : List AV) (sh : Heap) (K : AV → Heap → Option ρ) (r : ρ) (h : impl_unless.en N ρ args sh K = some r) : ∃ v sh', K v sh' = some r ∧ FnOk (E51 N).P 60 args sh v sh' := by
  unfold impl_unless.en at h
  split at h
  · exact fn_ok hE (kp := impl_unless.kp) (N := N) Try.func60 (c := impl_unless.bd) (by kernel_rfl) ((impl_unless.eq N _ _ _).trans h)
  · cases h
def E52 (N : Nat) : Env := (E51 N).add 60 (impl_unless.en N)
theorem E52_ok (N : Nat) : EnvOk (E52 N) ents := Env.add_ok (E51_ok N) (impl_unless.en_ok N (E51_ok N))
def impl_Coalgebra_code_s.kp : Keeps := ⟨[], [], []⟩
def impl_Coalgebra_code_s.bd : Code := bodyOf Try.f63
def impl_Coalgebra_code_s.fin {ρ : Type} (N : Nat) (K : AV → Heap → Option ρ) (gv2 : Nat → Int) (gv3 : Nat → Int) (gv4 : Nat) (gv5 : Nat → Int) : XE → St → Option ρ := finK (E52 N) impl_Coalgebra_code_s.kp.fins Try.f63 [⟨false, .flat 2 (.ints .i64 gv2)⟩, ⟨false, .flat 520 (.ints .u8 gv3)⟩, ⟨false, .flat gv4 (.ints .u8 gv5)⟩] K
theorem impl_Coalgebra_code_s.eq {ρ : Type} (N : Nat) (K : AV → Heap → Option ρ) (list0 : Nat) (list1 : Nat) (gv2 : Nat → Int) (gv3 : Nat → Int) (gv4 : Nat) (gv5 : Nat → Int) :
    xbody (E52 N) ents impl_Coalgebra_code_s.kp N Try.f63 impl_Coalgebra_code_s.bd [.sptr [(0, 2), (1, 520)], .slice true 2 0 list0 (.exact list1) 8] [⟨false, .flat 2 (.ints .i64 gv2)⟩, ⟨false, .flat 520 (.ints .u8 gv3)⟩, ⟨false, .flat gv4 (.ints .u8 gv5)⟩] K = (impl_Coalgebra_code_s N (fun d0 => K (.int .i64 (d0)) [⟨false, .flat 2 (.ints .i64 gv2)⟩, ⟨false, .flat 520 (.ints .u8 gv3)⟩, ⟨false, .flat gv4 (.ints .u8 gv5)⟩]) list0 list1 gv2 gv3 gv4 gv5) := by kernel_rfl
def impl_Coalgebra_code_s.en (N : Nat) (ρ : Type) : List AV → Heap → (AV → Heap → Option ρ) → Option ρ
  | [.sptr [(0, 2), (1, 520)], .slice true 2 0 list0 (.exact list1) 8], [⟨false, .flat 2 (.ints .i64 gv2)⟩, ⟨false, .flat 520 (.ints .u8 gv3)⟩, ⟨false, .flat gv4 (.ints .u8 gv5)⟩], K => (impl_Coalgebra_code_s N (fun d0 => K (.int .i64 (d0)) [⟨false, .flat 2 (.ints .i64 gv2)⟩, ⟨false, .flat 520 (.ints .u8 gv3)⟩, ⟨false, .flat gv4 (.ints .u8 gv5)⟩]) list0 list1 gv2 gv3 gv4 gv5)
  | _, _, _ => none
theorem impl_Coalgebra_code_s.en_ok (N : Nat) (hE : EnvOk (E52 N) ents) (ρ : Type) (args : List AV) (sh : Heap) (K : AV → Heap → Option ρ) (r : ρ) (h : impl_Coalgebra_code_s.en N ρ args sh K = some r) : ∃ v sh', K v sh' = some r ∧ FnOk (E52 N).P 63 args sh v sh' := by
  unfold impl_Coalgebra_code_s.en at h
  split at h
  · exact fn_ok hE (kp := impl_Coalgebra_code_s.kp) (N := N) Try.func63 (c := impl_Coalgebra_code_s.bd) (by kernel_rfl) ((impl_Coalgebra_code_s.eq N _ _ _ _ _ _ _).trans h)
  · cases h
def E53 (N : Nat) : Env := (E52 N).add 63 (impl_Coalgebra_code_s.en N)
theorem E53_ok (N : Nat) : EnvOk (E53 N) ents := Env.add_ok (E52_ok N) (impl_Coalgebra_code_s.en_ok N (E52_ok N))
def impl_first_s.kp : Keeps := ⟨[(0, [5, 6, 7], [], [])], [(0, [], [], [])], []⟩
def impl_first_s.bd : Code := bodyOf Try.f90
def impl_first_s.fin {ρ : Type} (N : Nat) (K : AV → Heap → Option ρ) (gv2 : Nat) (gv3 : Nat → Int) : XE → St → Option ρ := finK (E53 N) impl_first_s.kp.fins Try.f90 [⟨false, .flat gv2 (.ints .i64 gv3)⟩] K
def impl_first_s.k0 {ρ : Type} (N : Nat) (K : AV → Heap → Option ρ) (gv2 : Nat) (gv3 : Nat → Int) : XE → St → Option ρ := (blockK impl_first_s.kp 1 0 (seqK (xcode (E53 N) ents impl_first_s.kp 1 N (cB (cB impl_first_s.bd)) 0) (impl_first_s.fin N K gv2 gv3)))
theorem impl_first_s.k0_mix {ρ : Type} (N : Nat) (K : AV → Heap → Option ρ) (gv2 : Nat) (gv3 : Nat → Int) : mixK (impl_first_s.fin N K gv2 gv3 .ret) (impl_first_s.k0 N K gv2 gv3) = (impl_first_s.k0 N K gv2 gv3) := by
  funext e s; cases e <;> kernel_rfl
def impl_first_s.st0 (codes0 : Nat) (codes1 : Nat) (gv2 : Nat) (gv3 : Nat → Int) (x4 : Int) : St := ⟨sl 15 [(5, .slice true 0 0 codes0 (.exact codes1) 1), (6, .int .i64 ((codes0 : Int))), (7, .int .i64 (x4))], [⟨false, .flat gv2 (.ints .i64 gv3)⟩]⟩
def impl_first_s.sx0_0 (gv2 : Nat) (gv3 : Nat → Int) : St := ⟨sl 15 [], [⟨false, .flat gv2 (.ints .i64 gv3)⟩]⟩
theorem impl_first_s.b0_gen {ρ : Type} (N : Nat) (K : AV → Heap → Option ρ) (L0 : St → Option ρ) (kv : XE → St → Option ρ) (codes0 : Nat) (codes1 : Nat) (gv2 : Nat) (gv3 : Nat → Int) (x4 : Int) :
    xcode (E53 N) ents impl_first_s.kp 1 N (cL (cK (cB (cA (cB impl_first_s.bd))))) 0 (impl_first_s.st0 codes0 codes1 gv2 gv3 x4) (roundK impl_first_s.kp 1 0 L0 (mixK (impl_first_s.fin N K gv2 gv3 .ret) kv)) = (impl_first_s.b0 N (fun d0 => K (.int .i64 (d0)) [⟨false, .flat gv2 (.ints .i64 gv3)⟩]) (fun x4 => L0 (impl_first_s.st0 codes0 codes1 gv2 gv3 x4)) (kv (.exit 0) (impl_first_s.sx0_0 gv2 gv3)) codes0 gv3 x4) := by kernel_rfl
theorem impl_first_s.b0_eq {ρ : Type} (N : Nat) (K : AV → Heap → Option ρ) (L0 : St → Option ρ) (codes0 : Nat) (codes1 : Nat) (gv2 : Nat) (gv3 : Nat → Int) (x4 : Int) :
    xcode (E53 N) ents impl_first_s.kp 1 N (cL (cK (cB (cA (cB impl_first_s.bd))))) 0 (impl_first_s.st0 codes0 codes1 gv2 gv3 x4) (roundK impl_first_s.kp 1 0 L0 (impl_first_s.k0 N K gv2 gv3)) = (impl_first_s.b0 N (fun d0 => K (.int .i64 (d0)) [⟨false, .flat gv2 (.ints .i64 gv3)⟩]) (fun x4 => L0 (impl_first_s.st0 codes0 codes1 gv2 gv3 x4)) ((impl_first_s.k0 N K gv2 gv3) (.exit 0) (impl_first_s.sx0_0 gv2 gv3)) codes0 gv3 x4) := by
  have h := impl_first_s.b0_gen N K L0 (impl_first_s.k0 N K gv2 gv3) codes0 codes1 gv2 gv3 x4
  rw [impl_first_s.k0_mix] at h
  exact h
theorem impl_first_s.a0_0_eq {ρ : Type} (N : Nat) (K : AV → Heap → Option ρ) (gv2 : Nat) (gv3 : Nat → Int) :
    (impl_first_s.k0 N K gv2 gv3) (.exit 0) (impl_first_s.sx0_0 gv2 gv3) = (impl_first_s.a0_0 N (fun d0 => K (.int .i64 (d0)) [⟨false, .flat gv2 (.ints .i64 gv3)⟩])) := by kernel_rfl
theorem impl_first_s.l0_eq {ρ : Type} (N : Nat) (K : AV → Heap → Option ρ) (codes0 : Nat) (codes1 : Nat) (gv2 : Nat) (gv3 : Nat → Int) :
    ∀ (m : Nat) (x4 : Int), xloop (xcode (E53 N) ents impl_first_s.kp 1 N (cL (cK (cB (cA (cB impl_first_s.bd))))) 0) impl_first_s.kp 1 0 m (impl_first_s.st0 codes0 codes1 gv2 gv3 x4) (impl_first_s.k0 N K gv2 gv3) = (impl_first_s.l0 N (fun d0 => K (.int .i64 (d0)) [⟨false, .flat gv2 (.ints .i64 gv3)⟩]) codes0 gv3 ((impl_first_s.k0 N K gv2 gv3) (.exit 0) (impl_first_s.sx0_0 gv2 gv3)) m x4) := by
  intro m
  induction m with
  | zero => intros; rfl
  | succ m ih =>
    intro x4
    refine (impl_first_s.b0_eq N K (fun s => xloop (xcode (E53 N) ents impl_first_s.kp 1 N (cL (cK (cB (cA (cB impl_first_s.bd))))) 0) impl_first_s.kp 1 0 m s (impl_first_s.k0 N K gv2 gv3)) codes0 codes1 gv2 gv3 x4).trans ?_
    simp only [ih]
    kernel_rfl
theorem impl_first_s.s_eq {ρ : Type} (N : Nat) (K : AV → Heap → Option ρ) (codes0 : Nat) (codes1 : Nat) (gv2 : Nat) (gv3 : Nat → Int) :
    xbody (E53 N) ents impl_first_s.kp N Try.f90 impl_first_s.bd [.slice true 0 0 codes0 (.exact codes1) 1] [⟨false, .flat gv2 (.ints .i64 gv3)⟩] K = (impl_first_s.s N (fun d0 => K (.int .i64 (d0)) [⟨false, .flat gv2 (.ints .i64 gv3)⟩]) (fun x4 => xloop (xcode (E53 N) ents impl_first_s.kp 1 N (cL (cK (cB (cA (cB impl_first_s.bd))))) 0) impl_first_s.kp 1 0 N (impl_first_s.st0 codes0 codes1 gv2 gv3 x4) (impl_first_s.k0 N K gv2 gv3))) := by kernel_rfl
theorem impl_first_s.eq {ρ : Type} (N : Nat) (K : AV → Heap → Option ρ) (codes0 : Nat) (codes1 : Nat) (gv2 : Nat) (gv3 : Nat → Int) :
    xbody (E53 N) ents impl_first_s.kp N Try.f90 impl_first_s.bd [.slice true 0 0 codes0 (.exact codes1) 1] [⟨false, .flat gv2 (.ints .i64 gv3)⟩] K = (impl_first_s N (fun d0 => K (.int .i64 (d0)) [⟨false, .flat gv2 (.ints .i64 gv3)⟩]) codes0 codes1 gv2 gv3) := by
  refine (impl_first_s.s_eq N K codes0 codes1 gv2 gv3).trans ?_
  simp only [impl_first_s.l0_eq, impl_first_s.a0_0_eq]
  kernel_rfl
def impl_first_s.en (N : Nat) (ρ : Type) : List AV → Heap → (AV → Heap → Option ρ) → Option ρ
  | [.slice true 0 0 codes0 (.exact codes1) 1], [⟨false, .flat gv2 (.ints .i64 gv3)⟩], K => (impl_first_s N (fun d0 => K (.int .i64 (d0)) [⟨false, .flat gv2 (.ints .i64 gv3)⟩]) codes0 codes1 gv2 gv3)
  | _, _, _ => none
theorem impl_first_s.en_ok (N : Nat) (hE : EnvOk (E53 N) ents) (ρ : Type) (args : List AV) (sh : Heap) (K : AV → Heap → Option ρ) (r : ρ) (h : impl_first_s.en N ρ args sh K = some r) : ∃ v sh', K v sh' = some r ∧ FnOk (E53 N).P 90 args sh v sh' := by
  unfold impl_first_s.en at h
  split at h
  · exact fn_ok hE (kp := impl_first_s.kp) (N := N) Try.func90 (c := impl_first_s.bd) (by kernel_rfl) ((impl_first_s.eq N _ _ _ _ _).trans h)
  · cases h
def E54 (N : Nat) : Env := (E53 N).add 90 (impl_first_s.en N)
theorem E54_ok (N : Nat) : EnvOk (E54 N) ents := Env.add_ok (E53_ok N) (impl_first_s.en_ok N (E53_ok N))
def impl_newSystem.kp : Keeps := ⟨[], [], []⟩
def impl_newSystem.bd : Code := bodyOf Try.f113
def impl_newSystem.fin {ρ : Type} (N : Nat) (K : AV → Heap → Option ρ) : XE → St → Option ρ := finK (E54 N) impl_newSystem.kp.fins Try.f113 [] K
theorem impl_newSystem.eq {ρ : Type} (N : Nat) (K : AV → Heap → Option ρ) (p0 : Int) (many1 : Int) :
    xbody (E54 N) ents impl_newSystem.kp N Try.f113 impl_newSystem.bd [.int .i64 (p0), .int .i64 (many1)] [] K = (impl_newSystem N (fun d0 d1 => K (.sptr [(0, 2), (1, 1), (2, 1), (3, 1)]) [⟨true, .flat 2 (.ints .i64 d0)⟩, ⟨true, .flat 1 (.ints .i64 d1)⟩, ⟨true, .avs [.nils]⟩, ⟨true, .avs [.nils]⟩]) p0 many1) := by kernel_rfl
def impl_newSystem.en (N : Nat) (ρ : Type) : List AV → Heap → (AV → Heap → Option ρ) → Option ρ
  | [.int .i64 (p0), .int .i64 (many1)], [], K => (impl_newSystem N (fun d0 d1 => K (.sptr [(0, 2), (1, 1), (2, 1), (3, 1)]) [⟨true, .flat 2 (.ints .i64 d0)⟩, ⟨true, .flat 1 (.ints .i64 d1)⟩, ⟨true, .avs [.nils]⟩, ⟨true, .avs [.nils]⟩]) p0 many1)
  | _, _, _ => none
theorem impl_newSystem.en_ok (N : Nat) (hE : EnvOk (E54 N) ents) (ρ : Type) (args : List AV) (sh : Heap) (K : AV → Heap → Option ρ) (r : ρ) (h : impl_newSystem.en N ρ args sh K = some r) : ∃ v sh', K v sh' = some r ∧ FnOk (E54 N).P 113 args sh v sh' := by
  unfold impl_newSystem.en at h
  split at h
  · exact fn_ok hE (kp := impl_newSystem.kp) (N := N) Try.func113 (c := impl_newSystem.bd) (by kernel_rfl) ((impl_newSystem.eq N _ _ _).trans h)
  · cases h
def E55 (N : Nat) : Env := (E54 N).add 113 (impl_newSystem.en N)
theorem E55_ok (N : Nat) : EnvOk (E55 N) ents := Env.add_ok (E54_ok N) (impl_newSystem.en_ok N (E54_ok N))
def impl_PrimitiveSpace_c1.kp : Keeps := ⟨[], [], []⟩
def impl_PrimitiveSpace_c1.bd : Code := bodyOf Try.f92
def impl_PrimitiveSpace_c1.fin {ρ : Type} (N : Nat) (K : AV → Heap → Option ρ) (gv2 : Nat → Int) (gv3 : Nat → Int) (gv4 : Nat → Int) (gv5 : Nat → Int) (gv6 : Nat → Int) : XE → St → Option ρ := finK (E55 N) impl_PrimitiveSpace_c1.kp.fins Try.f92 [⟨false, .flat 2 (.ints .i64 gv2)⟩, ⟨false, .flat 2 (.ints .i64 gv3)⟩, ⟨false, .flat 520 (.ints .u8 gv4)⟩, ⟨false, .flat 8 (.ints .u8 gv5)⟩, ⟨false, .flat 8 (.ints .u8 gv6)⟩] K
theorem impl_PrimitiveSpace_c1.eq {ρ : Type} (N : Nat) (K : AV → Heap → Option ρ) (form0 : Int) (i1 : Int) (gv2 : Nat → Int) (gv3 : Nat → Int) (gv4 : Nat → Int) (gv5 : Nat → Int) (gv6 : Nat → Int) :
    xbody (E55 N) ents impl_PrimitiveSpace_c1.kp N Try.f92 impl_PrimitiveSpace_c1.bd [.int .i64 (form0), .int .i64 (i1), .sptr [(0, 2)], .sptr [(1, 2), (2, 520)], .sptr [(3, 8)], .sptr [(4, 8)]] [⟨false, .flat 2 (.ints .i64 gv2)⟩, ⟨false, .flat 2 (.ints .i64 gv3)⟩, ⟨false, .flat 520 (.ints .u8 gv4)⟩, ⟨false, .flat 8 (.ints .u8 gv5)⟩, ⟨false, .flat 8 (.ints .u8 gv6)⟩] K = (impl_PrimitiveSpace_c1 N (fun d0 => K (.int .i64 (d0)) [⟨false, .flat 2 (.ints .i64 gv2)⟩, ⟨false, .flat 2 (.ints .i64 gv3)⟩, ⟨false, .flat 520 (.ints .u8 gv4)⟩, ⟨false, .flat 8 (.ints .u8 gv5)⟩, ⟨false, .flat 8 (.ints .u8 gv6)⟩]) form0 i1 gv2 gv3 gv4 gv5 gv6) := by kernel_rfl
def impl_PrimitiveSpace_c1.en (N : Nat) (ρ : Type) : List AV → Heap → (AV → Heap → Option ρ) → Option ρ
  | [.int .i64 (form0), .int .i64 (i1), .sptr [(0, 2)], .sptr [(1, 2), (2, 520)], .sptr [(3, 8)], .sptr [(4, 8)]], [⟨false, .flat 2 (.ints .i64 gv2)⟩, ⟨false, .flat 2 (.ints .i64 gv3)⟩, ⟨false, .flat 520 (.ints .u8 gv4)⟩, ⟨false, .flat 8 (.ints .u8 gv5)⟩, ⟨false, .flat 8 (.ints .u8 gv6)⟩], K => (impl_PrimitiveSpace_c1 N (fun d0 => K (.int .i64 (d0)) [⟨false, .flat 2 (.ints .i64 gv2)⟩, ⟨false, .flat 2 (.ints .i64 gv3)⟩, ⟨false, .flat 520 (.ints .u8 gv4)⟩, ⟨false, .flat 8 (.ints .u8 gv5)⟩, ⟨false, .flat 8 (.ints .u8 gv6)⟩]) form0 i1 gv2 gv3 gv4 gv5 gv6)
  | _, _, _ => none
theorem impl_PrimitiveSpace_c1.en_ok (N : Nat) (hE : EnvOk (E55 N) ents) (ρ : Type) (args : List AV) (sh : Heap) (K : AV → Heap → Option ρ) (r : ρ) (h : impl_PrimitiveSpace_c1.en N ρ args sh K = some r) : ∃ v sh', K v sh' = some r ∧ FnOk (E55 N).P 92 args sh v sh' := by
  unfold impl_PrimitiveSpace_c1.en at h
  split at h
  · exact fn_ok hE (kp := impl_PrimitiveSpace_c1.kp) (N := N) Try.func92 (c := impl_PrimitiveSpace_c1.bd) (by kernel_rfl) ((impl_PrimitiveSpace_c1.eq N _ _ _ _ _ _ _ _).trans h)
  · cases h
def E56 (N : Nat) : Env := (E55 N).add 92 (impl_PrimitiveSpace_c1.en N)
theorem E56_ok (N : Nat) : EnvOk (E56 N) ents := Env.add_ok (E55_ok N) (impl_PrimitiveSpace_c1.en_ok N (E55_ok N))
def impl_system_add_s_v2.kp : Keeps := ⟨[(0, [0, 2, 6, 15, 16, 17], [], [])], [(0, [0, 2, 6], [], [])], []⟩
def impl_system_add_s_v2.bd : Code := bodyOf Try.f123
def impl_system_add_s_v2.fin {ρ : Type} (N : Nat) (K : AV → Heap → Option ρ) (gv3 : Nat → Int) (gv4 : Nat → Int) (gv5 : Nat) (gv6 : Nat) (gv7 : Nat → Int) (gv8 : Nat) (gv9 : Nat → Nat) (gv10 : Nat → Nat) (gv11 : Nat → Int) : XE → St → Option ρ := finK (E56 N) impl_system_add_s_v2.kp.fins Try.f123 [⟨false, .flat 2 (.ints .i64 gv3)⟩, ⟨false, .flat 1 (.ints .i64 gv4)⟩, ⟨true, .avs [.slice false 5 0 gv5 .whole 1]⟩, ⟨false, .avs [.nils]⟩, ⟨false, .flat gv6 (.ints .i64 gv7)⟩, ⟨true, .hdr 6 0 gv8 gv9 gv10 none⟩, ⟨true, .flat 0 (.ints .u8 gv11)⟩] K
def impl_system_add_s_v2.k0 {ρ : Type} (N : Nat) (K : AV → Heap → Option ρ) (gv3 : Nat → Int) (gv4 : Nat → Int) (gv5 : Nat) (gv6 : Nat) (gv7 : Nat → Int) (gv8 : Nat) (gv9 : Nat → Nat) (gv10 : Nat → Nat) (gv11 : Nat → Int) : XE → St → Option ρ := (blockK impl_system_add_s_v2.kp 7 0 (seqK (xcode (E56 N) ents impl_system_add_s_v2.kp 7 N (cB (cB impl_system_add_s_v2.bd)) 0) (impl_system_add_s_v2.fin N K gv3 gv4 gv5 gv6 gv7 gv8 gv9 gv10 gv11)))
theorem impl_system_add_s_v2.k0_mix {ρ : Type} (N : Nat) (K : AV → Heap → Option ρ) (gv3 : Nat → Int) (gv4 : Nat → Int) (gv5 : Nat) (gv6 : Nat) (gv7 : Nat → Int) (gv8 : Nat) (gv9 : Nat → Nat) (gv10 : Nat → Nat) (gv11 : Nat → Int) : mixK (impl_system_add_s_v2.fin N K gv3 gv4 gv5 gv6 gv7 gv8 gv9 gv10 gv11 .ret) (impl_system_add_s_v2.k0 N K gv3 gv4 gv5 gv6 gv7 gv8 gv9 gv10 gv11) = (impl_system_add_s_v2.k0 N K gv3 gv4 gv5 gv6 gv7 gv8 gv9 gv10 gv11) := by
  funext e s; cases e <;> kernel_rfl
def impl_system_add_s_v2.st0 (coefficients0 : Nat) (coefficients1 : Nat) (value2 : Int) (gv3 : Nat → Int) (gv4 : Nat → Int) (gv5 : Nat) (gv6 : Nat) (gv7 : Nat → Int) (gv8 : Nat) (gv9 : Nat → Nat) (gv10 : Nat → Nat) (gv11 : Nat → Int) (x12 : Int) (gv13 : Nat → Int) : St := ⟨sl 54 [(0, .sptr [(0, 2), (1, 1), (2, 1), (3, 1)]), (2, .int .i64 (value2)), (6, .slice true 7 0 ((IntKind.i64.wrap ((gv4 0) + 1))).toNat (.exact ((IntKind.i64.wrap ((gv4 0) + 1))).toNat) 1), (15, .slice true 4 0 coefficients0 (.exact coefficients1) 1), (16, .int .i64 ((coefficients0 : Int))), (17, .int .i64 (x12))], [⟨false, .flat 2 (.ints .i64 gv3)⟩, ⟨false, .flat 1 (.ints .i64 gv4)⟩, ⟨true, .avs [.slice false 5 0 gv5 .whole 1]⟩, ⟨false, .avs [.nils]⟩, ⟨false, .flat gv6 (.ints .i64 gv7)⟩, ⟨true, .hdr 6 0 gv8 gv9 gv10 none⟩, ⟨true, .flat 0 (.ints .u8 gv11)⟩, ⟨true, .flat (((IntKind.i64.wrap ((gv4 0) + 1))).toNat * 1) (.ints .u8 gv13)⟩]⟩
def impl_system_add_s_v2.sx0_0 (value2 : Int) (gv3 : Nat → Int) (gv4 : Nat → Int) (gv5 : Nat) (gv6 : Nat) (gv7 : Nat → Int) (gv8 : Nat) (gv9 : Nat → Nat) (gv10 : Nat → Nat) (gv11 : Nat → Int) (ov15 : Nat → Int) : St := ⟨sl 54 [(0, .sptr [(0, 2), (1, 1), (2, 1), (3, 1)]), (2, .int .i64 (value2)), (6, .slice true 7 0 ((IntKind.i64.wrap ((gv4 0) + 1))).toNat (.exact ((IntKind.i64.wrap ((gv4 0) + 1))).toNat) 1)], [⟨false, .flat 2 (.ints .i64 gv3)⟩, ⟨false, .flat 1 (.ints .i64 gv4)⟩, ⟨true, .avs [.slice false 5 0 gv5 .whole 1]⟩, ⟨false, .avs [.nils]⟩, ⟨false, .flat gv6 (.ints .i64 gv7)⟩, ⟨true, .hdr 6 0 gv8 gv9 gv10 none⟩, ⟨true, .flat 0 (.ints .u8 gv11)⟩, ⟨true, .flat (((IntKind.i64.wrap ((gv4 0) + 1))).toNat * 1) (.ints .u8 ov15)⟩]⟩
theorem impl_system_add_s_v2.b0_gen {ρ : Type} (N : Nat) (K : AV → Heap → Option ρ) (L0 : St → Option ρ) (kv : XE → St → Option ρ) (coefficients0 : Nat) (coefficients1 : Nat) (value2 : Int) (gv3 : Nat → Int) (gv4 : Nat → Int) (gv5 : Nat) (gv6 : Nat) (gv7 : Nat → Int) (gv8 : Nat) (gv9 : Nat → Nat) (gv10 : Nat → Nat) (gv11 : Nat → Int) (x12 : Int) (gv13 : Nat → Int) :
    xcode (E56 N) ents impl_system_add_s_v2.kp 7 N (cL (cK (cB (cA (cB impl_system_add_s_v2.bd))))) 0 (impl_system_add_s_v2.st0 coefficients0 coefficients1 value2 gv3 gv4 gv5 gv6 gv7 gv8 gv9 gv10 gv11 x12 gv13) (roundK impl_system_add_s_v2.kp 7 0 L0 (mixK (impl_system_add_s_v2.fin N K gv3 gv4 gv5 gv6 gv7 gv8 gv9 gv10 gv11 .ret) kv)) = (impl_system_add_s_v2.b0 N (fun d0 d1 d2 d3 d4 => K (.tup []) [⟨false, .flat 2 (.ints .i64 gv3)⟩, ⟨false, .flat 1 (.ints .i64 gv4)⟩, ⟨true, .avs [.slice false 7 0 d0 .whole 1]⟩, ⟨false, .avs [.nils]⟩, ⟨false, .flat gv6 (.ints .i64 gv7)⟩, ⟨true, .dead⟩, ⟨true, .dead⟩, ⟨true, .hdr 8 0 d1 d2 d3 none⟩, ⟨true, .flat 0 (.ints .u8 d4)⟩]) (fun x12 gv13 => L0 (impl_system_add_s_v2.st0 coefficients0 coefficients1 value2 gv3 gv4 gv5 gv6 gv7 gv8 gv9 gv10 gv11 x12 gv13)) (fun ov15 => kv (.exit 0) (impl_system_add_s_v2.sx0_0 value2 gv3 gv4 gv5 gv6 gv7 gv8 gv9 gv10 gv11 ov15)) coefficients0 gv3 gv4 gv7 x12 gv13) := by kernel_rfl
theorem impl_system_add_s_v2.b0_eq {ρ : Type} (N : Nat) (K : AV → Heap → Option ρ) (L0 : St → Option ρ) (coefficients0 : Nat) (coefficients1 : Nat) (value2 : Int) (gv3 : Nat → Int) (gv4 : Nat → Int) (gv5 : Nat) (gv6 : Nat) (gv7 : Nat → Int) (gv8 : Nat) (gv9 : Nat → Nat) (gv10 : Nat → Nat) (gv11 : Nat → Int) (x12 : Int) (gv13 : Nat → Int) :
    xcode (E56 N) ents impl_system_add_s_v2.kp 7 N (cL (cK (cB (cA (cB impl_system_add_s_v2.bd))))) 0 (impl_system_add_s_v2.st0 coefficients0 coefficients1 value2 gv3 gv4 gv5 gv6 gv7 gv8 gv9 gv10 gv11 x12 gv13) (roundK impl_system_add_s_v2.kp 7 0 L0 (impl_system_add_s_v2.k0 N K gv3 gv4 gv5 gv6 gv7 gv8 gv9 gv10 gv11)) = (impl_system_add_s_v2.b0 N (fun d0 d1 d2 d3 d4 => K (.tup []) [⟨false, .flat 2 (.ints .i64 gv3)⟩, ⟨false, .flat 1 (.ints .i64 gv4)⟩, ⟨true, .avs [.slice false 7 0 d0 .whole 1]⟩, ⟨false, .avs [.nils]⟩, ⟨false, .flat gv6 (.ints .i64 gv7)⟩, ⟨true, .dead⟩, ⟨true, .dead⟩, ⟨true, .hdr 8 0 d1 d2 d3 none⟩, ⟨true, .flat 0 (.ints .u8 d4)⟩]) (fun x12 gv13 => L0 (impl_system_add_s_v2.st0 coefficients0 coefficients1 value2 gv3 gv4 gv5 gv6 gv7 gv8 gv9 gv10 gv11 x12 gv13)) (fun ov15 => (impl_system_add_s_v2.k0 N K gv3 gv4 gv5 gv6 gv7 gv8 gv9 gv10 gv11) (.exit 0) (impl_system_add_s_v2.sx0_0 value2 gv3 gv4 gv5 gv6 gv7 gv8 gv9 gv10 gv11 ov15)) coefficients0 gv3 gv4 gv7 x12 gv13) := by
  have h := impl_system_add_s_v2.b0_gen N K L0 (impl_system_add_s_v2.k0 N K gv3 gv4 gv5 gv6 gv7 gv8 gv9 gv10 gv11) coefficients0 coefficients1 value2 gv3 gv4 gv5 gv6 gv7 gv8 gv9 gv10 gv11 x12 gv13
  rw [impl_system_add_s_v2.k0_mix] at h
  exact h
theorem impl_system_add_s_v2.a0_0_eq {ρ : Type} (N : Nat) (K : AV → Heap → Option ρ) (value2 : Int) (gv3 : Nat → Int) (gv4 : Nat → Int) (gv5 : Nat) (gv6 : Nat) (gv7 : Nat → Int) (gv8 : Nat) (gv9 : Nat → Nat) (gv10 : Nat → Nat) (gv11 : Nat → Int) (ov15 : Nat → Int) :
    (impl_system_add_s_v2.k0 N K gv3 gv4 gv5 gv6 gv7 gv8 gv9 gv10 gv11) (.exit 0) (impl_system_add_s_v2.sx0_0 value2 gv3 gv4 gv5 gv6 gv7 gv8 gv9 gv10 gv11 ov15) = (impl_system_add_s_v2.a0_0 N (fun d0 d1 d2 d3 d4 => K (.tup []) [⟨false, .flat 2 (.ints .i64 gv3)⟩, ⟨false, .flat 1 (.ints .i64 gv4)⟩, ⟨true, .avs [.slice false 7 0 d0 .whole 1]⟩, ⟨false, .avs [.nils]⟩, ⟨false, .flat gv6 (.ints .i64 gv7)⟩, ⟨true, .dead⟩, ⟨true, .dead⟩, ⟨true, .hdr 8 0 d1 d2 d3 none⟩, ⟨true, .flat 0 (.ints .u8 d4)⟩]) value2 gv3 gv4 gv5 gv8 gv9 gv10 gv11 ov15) := by kernel_rfl
theorem impl_system_add_s_v2.l0_eq {ρ : Type} (N : Nat) (K : AV → Heap → Option ρ) (coefficients0 : Nat) (coefficients1 : Nat) (value2 : Int) (gv3 : Nat → Int) (gv4 : Nat → Int) (gv5 : Nat) (gv6 : Nat) (gv7 : Nat → Int) (gv8 : Nat) (gv9 : Nat → Nat) (gv10 : Nat → Nat) (gv11 : Nat → Int) :
    ∀ (m : Nat) (x12 : Int) (gv13 : Nat → Int), xloop (xcode (E56 N) ents impl_system_add_s_v2.kp 7 N (cL (cK (cB (cA (cB impl_system_add_s_v2.bd))))) 0) impl_system_add_s_v2.kp 7 0 m (impl_system_add_s_v2.st0 coefficients0 coefficients1 value2 gv3 gv4 gv5 gv6 gv7 gv8 gv9 gv10 gv11 x12 gv13) (impl_system_add_s_v2.k0 N K gv3 gv4 gv5 gv6 gv7 gv8 gv9 gv10 gv11) = (impl_system_add_s_v2.l0 N (fun d0 d1 d2 d3 d4 => K (.tup []) [⟨false, .flat 2 (.ints .i64 gv3)⟩, ⟨false, .flat 1 (.ints .i64 gv4)⟩, ⟨true, .avs [.slice false 7 0 d0 .whole 1]⟩, ⟨false, .avs [.nils]⟩, ⟨false, .flat gv6 (.ints .i64 gv7)⟩, ⟨true, .dead⟩, ⟨true, .dead⟩, ⟨true, .hdr 8 0 d1 d2 d3 none⟩, ⟨true, .flat 0 (.ints .u8 d4)⟩]) coefficients0 gv3 gv4 gv7 (fun ov15 => (impl_system_add_s_v2.k0 N K gv3 gv4 gv5 gv6 gv7 gv8 gv9 gv10 gv11) (.exit 0) (impl_system_add_s_v2.sx0_0 value2 gv3 gv4 gv5 gv6 gv7 gv8 gv9 gv10 gv11 ov15)) m x12 gv13) := by
  intro m
  induction m with
  | zero => intros; rfl
  | succ m ih =>
    intro x12 gv13
    refine (impl_system_add_s_v2.b0_eq N K (fun s => xloop (xcode (E56 N) ents impl_system_add_s_v2.kp 7 N (cL (cK (cB (cA (cB impl_system_add_s_v2.bd))))) 0) impl_system_add_s_v2.kp 7 0 m s (impl_system_add_s_v2.k0 N K gv3 gv4 gv5 gv6 gv7 gv8 gv9 gv10 gv11)) coefficients0 coefficients1 value2 gv3 gv4 gv5 gv6 gv7 gv8 gv9 gv10 gv11 x12 gv13).trans ?_
    simp only [ih]
    kernel_rfl
theorem impl_system_add_s_v2.s_eq {ρ : Type} (N : Nat) (K : AV → Heap → Option ρ) (coefficients0 : Nat) (coefficients1 : Nat) (value2 : Int) (gv3 : Nat → Int) (gv4 : Nat → Int) (gv5 : Nat) (gv6 : Nat) (gv7 : Nat → Int) (gv8 : Nat) (gv9 : Nat → Nat) (gv10 : Nat → Nat) (gv11 : Nat → Int) :
    xbody (E56 N) ents impl_system_add_s_v2.kp N Try.f123 impl_system_add_s_v2.bd [.sptr [(0, 2), (1, 1), (2, 1), (3, 1)], .slice true 4 0 coefficients0 (.exact coefficients1) 1, .int .i64 (value2)] [⟨false, .flat 2 (.ints .i64 gv3)⟩, ⟨false, .flat 1 (.ints .i64 gv4)⟩, ⟨true, .avs [.slice false 5 0 gv5 .whole 1]⟩, ⟨false, .avs [.nils]⟩, ⟨false, .flat gv6 (.ints .i64 gv7)⟩, ⟨true, .hdr 6 0 gv8 gv9 gv10 none⟩, ⟨true, .flat 0 (.ints .u8 gv11)⟩] K = (impl_system_add_s_v2.s N (fun d0 d1 d2 d3 d4 => K (.tup []) [⟨false, .flat 2 (.ints .i64 gv3)⟩, ⟨false, .flat 1 (.ints .i64 gv4)⟩, ⟨true, .avs [.slice false 7 0 d0 .whole 1]⟩, ⟨false, .avs [.nils]⟩, ⟨false, .flat gv6 (.ints .i64 gv7)⟩, ⟨true, .dead⟩, ⟨true, .dead⟩, ⟨true, .hdr 8 0 d1 d2 d3 none⟩, ⟨true, .flat 0 (.ints .u8 d4)⟩]) (fun x12 gv13 => xloop (xcode (E56 N) ents impl_system_add_s_v2.kp 7 N (cL (cK (cB (cA (cB impl_system_add_s_v2.bd))))) 0) impl_system_add_s_v2.kp 7 0 N (impl_system_add_s_v2.st0 coefficients0 coefficients1 value2 gv3 gv4 gv5 gv6 gv7 gv8 gv9 gv10 gv11 x12 gv13) (impl_system_add_s_v2.k0 N K gv3 gv4 gv5 gv6 gv7 gv8 gv9 gv10 gv11)) gv4) := by kernel_rfl
theorem impl_system_add_s_v2.eq {ρ : Type} (N : Nat) (K : AV → Heap → Option ρ) (coefficients0 : Nat) (coefficients1 : Nat) (value2 : Int) (gv3 : Nat → Int) (gv4 : Nat → Int) (gv5 : Nat) (gv6 : Nat) (gv7 : Nat → Int) (gv8 : Nat) (gv9 : Nat → Nat) (gv10 : Nat → Nat) (gv11 : Nat → Int) :
    xbody (E56 N) ents impl_system_add_s_v2.kp N Try.f123 impl_system_add_s_v2.bd [.sptr [(0, 2), (1, 1), (2, 1), (3, 1)], .slice true 4 0 coefficients0 (.exact coefficients1) 1, .int .i64 (value2)] [⟨false, .flat 2 (.ints .i64 gv3)⟩, ⟨false, .flat 1 (.ints .i64 gv4)⟩, ⟨true, .avs [.slice false 5 0 gv5 .whole 1]⟩, ⟨false, .avs [.nils]⟩, ⟨false, .flat gv6 (.ints .i64 gv7)⟩, ⟨true, .hdr 6 0 gv8 gv9 gv10 none⟩, ⟨true, .flat 0 (.ints .u8 gv11)⟩] K = (impl_system_add_s_v2 N (fun d0 d1 d2 d3 d4 => K (.tup []) [⟨false, .flat 2 (.ints .i64 gv3)⟩, ⟨false, .flat 1 (.ints .i64 gv4)⟩, ⟨true, .avs [.slice false 7 0 d0 .whole 1]⟩, ⟨false, .avs [.nils]⟩, ⟨false, .flat gv6 (.ints .i64 gv7)⟩, ⟨true, .dead⟩, ⟨true, .dead⟩, ⟨true, .hdr 8 0 d1 d2 d3 none⟩, ⟨true, .flat 0 (.ints .u8 d4)⟩]) coefficients0 coefficients1 value2 gv3 gv4 gv5 gv6 gv7 gv8 gv9 gv10 gv11) := by
  refine (impl_system_add_s_v2.s_eq N K coefficients0 coefficients1 value2 gv3 gv4 gv5 gv6 gv7 gv8 gv9 gv10 gv11).trans ?_
  simp only [impl_system_add_s_v2.l0_eq, impl_system_add_s_v2.a0_0_eq]
  kernel_rfl
def impl_system_add_s_v2.en (N : Nat) (ρ : Type) : List AV → Heap → (AV → Heap → Option ρ) → Option ρ
  | [.sptr [(0, 2), (1, 1), (2, 1), (3, 1)], .slice true 4 0 coefficients0 (.exact coefficients1) 1, .int .i64 (value2)], [⟨false, .flat 2 (.ints .i64 gv3)⟩, ⟨false, .flat 1 (.ints .i64 gv4)⟩, ⟨true, .avs [.slice false 5 0 gv5 .whole 1]⟩, ⟨false, .avs [.nils]⟩, ⟨false, .flat gv6 (.ints .i64 gv7)⟩, ⟨true, .hdr 6 0 gv8 gv9 gv10 none⟩, ⟨true, .flat 0 (.ints .u8 gv11)⟩], K => (impl_system_add_s_v2 N (fun d0 d1 d2 d3 d4 => K (.tup []) [⟨false, .flat 2 (.ints .i64 gv3)⟩, ⟨false, .flat 1 (.ints .i64 gv4)⟩, ⟨true, .avs [.slice false 7 0 d0 .whole 1]⟩, ⟨false, .avs [.nils]⟩, ⟨false, .flat gv6 (.ints .i64 gv7)⟩, ⟨true, .dead⟩, ⟨true, .dead⟩, ⟨true, .hdr 8 0 d1 d2 d3 none⟩, ⟨true, .flat 0 (.ints .u8 d4)⟩]) coefficients0 coefficients1 value2 gv3 gv4 gv5 gv6 gv7 gv8 gv9 gv10 gv11)
  | _, _, _ => none
theorem impl_system_add_s_v2.en_ok (N : Nat) (hE : EnvOk (E56 N) ents) (ρ : Type) (args : List AV) (sh : Heap) (K : AV → Heap → Option ρ) (r : ρ) (h : impl_system_add_s_v2.en N ρ args sh K = some r) : ∃ v sh', K v sh' = some r ∧ FnOk (E56 N).P 123 args sh v sh' := by
  unfold impl_system_add_s_v2.en at h
  split at h
  · exact fn_ok hE (kp := impl_system_add_s_v2.kp) (N := N) Try.func123 (c := impl_system_add_s_v2.bd) (by kernel_rfl) ((impl_system_add_s_v2.eq N _ _ _ _ _ _ _ _ _ _ _ _ _).trans h)
  · cases h
def E57 (N : Nat) : Env := (E56 N).add 123 (impl_system_add_s_v2.en N)
theorem E57_ok (N : Nat) : EnvOk (E57 N) ents := Env.add_ok (E56_ok N) (impl_system_add_s_v2.en_ok N (E56_ok N))
def impl_system_solve_c1_su.kp : Keeps := ⟨[], [], []⟩
def impl_system_solve_c1_su.bd : Code := bodyOf Try.f142
def impl_system_solve_c1_su.fin {ρ : Type} (N : Nat) (K : AV → Heap → Option ρ) (gv1 : Nat) (gv2 : Nat → Int) (gv3 : Nat → Int) : XE → St → Option ρ := finK (E57 N) impl_system_solve_c1_su.kp.fins Try.f142 [⟨false, .flat gv1 (.ints .u8 gv2)⟩, ⟨false, .flat 1 (.ints .i64 gv3)⟩] K
theorem impl_system_solve_c1_su.eq {ρ : Type} (N : Nat) (K : AV → Heap → Option ρ) (rv0 : Nat) (gv1 : Nat) (gv2 : Nat → Int) (gv3 : Nat → Int) :
    xbody (E57 N) ents impl_system_solve_c1_su.kp N Try.f142 impl_system_solve_c1_su.bd [.slice false 0 0 rv0 .unk 1, .sptr [(1, 1)]] [⟨false, .flat gv1 (.ints .u8 gv2)⟩, ⟨false, .flat 1 (.ints .i64 gv3)⟩] K = (impl_system_solve_c1_su N (fun d0 => K (.bool (d0)) [⟨false, .flat gv1 (.ints .u8 gv2)⟩, ⟨false, .flat 1 (.ints .i64 gv3)⟩]) rv0 gv1 gv2 gv3) := by kernel_rfl
def impl_system_solve_c1_su.en (N : Nat) (ρ : Type) : List AV → Heap → (AV → Heap → Option ρ) → Option ρ
  | [.slice false 0 0 rv0 .unk 1, .sptr [(1, 1)]], [⟨false, .flat gv1 (.ints .u8 gv2)⟩, ⟨false, .flat 1 (.ints .i64 gv3)⟩], K => (impl_system_solve_c1_su N (fun d0 => K (.bool (d0)) [⟨false, .flat gv1 (.ints .u8 gv2)⟩, ⟨false, .flat 1 (.ints .i64 gv3)⟩]) rv0 gv1 gv2 gv3)
  | _, _, _ => none
theorem impl_system_solve_c1_su.en_ok (N : Nat) (hE : EnvOk (E57 N) ents) (ρ : Type) (args : List AV) (sh : Heap) (K : AV → Heap → Option ρ) (r : ρ) (h : impl_system_solve_c1_su.en N ρ args sh K = some r) : ∃ v sh', K v sh' = some r ∧ FnOk (E57 N).P 142 args sh v sh' := by
  unfold impl_system_solve_c1_su.en at h
  split at h
  · exact fn_ok hE (kp := impl_system_solve_c1_su.kp) (N := N) Try.func142 (c := impl_system_solve_c1_su.bd) (by kernel_rfl) ((impl_system_solve_c1_su.eq N _ _ _ _ _).trans h)
  · cases h
def E58 (N : Nat) : Env := (E57 N).add 142 (impl_system_solve_c1_su.en N)
theorem E58_ok (N : Nat) : EnvOk (E58 N) ents := Env.add_ok (E57_ok N) (impl_system_solve_c1_su.en_ok N (E57_ok N))
def impl_system_solve_c2_su.kp : Keeps := ⟨[], [], []⟩
def impl_system_solve_c2_su.bd : Code := bodyOf Try.f145
def impl_system_solve_c2_su.fin {ρ : Type} (N : Nat) (K : AV → Heap → Option ρ) (gv1 : Nat) (gv2 : Nat → Int) (gv3 : Nat → Int) (gv4 : Nat → Int) (gv5 : Nat) (gv6 : Nat) (gv7 : Nat) (gv8 : Nat) (gv9 : Nat → Nat) (gv10 : Nat → Nat) (gv11 : Nat) (gv12 : Nat → Int) (gv13 : Nat → Int) : XE → St → Option ρ := finK (E58 N) impl_system_solve_c2_su.kp.fins Try.f145 [⟨false, .flat gv1 (.ints .u8 gv2)⟩, ⟨false, .avs [.sptr [(2, 2), (3, 1), (4, 1), (5, 1)]]⟩, ⟨false, .flat 2 (.ints .i64 gv3)⟩, ⟨false, .flat 1 (.ints .i64 gv4)⟩, ⟨false, .avs [.slice false 6 0 gv5 .unk 1]⟩, ⟨false, .avs [.slice false 7 0 gv6 .unk 1]⟩, ⟨false, .hdr 8 gv7 gv8 gv9 gv10 none⟩, ⟨false, .flat gv11 (.ints .i64 gv12)⟩, ⟨false, .flat 0 (.ints .u8 gv13)⟩] K
theorem impl_system_solve_c2_su.eq {ρ : Type} (N : Nat) (K : AV → Heap → Option ρ) (rv0 : Nat) (gv1 : Nat) (gv2 : Nat → Int) (gv3 : Nat → Int) (gv4 : Nat → Int) (gv5 : Nat) (gv6 : Nat) (gv7 : Nat) (gv8 : Nat) (gv9 : Nat → Nat) (gv10 : Nat → Nat) (gv11 : Nat) (gv12 : Nat → Int) (gv13 : Nat → Int) :
    xbody (E58 N) ents impl_system_solve_c2_su.kp N Try.f145 impl_system_solve_c2_su.bd [.slice false 0 0 rv0 .unk 1, .sptr [(1, 1)]] [⟨false, .flat gv1 (.ints .u8 gv2)⟩, ⟨false, .avs [.sptr [(2, 2), (3, 1), (4, 1), (5, 1)]]⟩, ⟨false, .flat 2 (.ints .i64 gv3)⟩, ⟨false, .flat 1 (.ints .i64 gv4)⟩, ⟨false, .avs [.slice false 6 0 gv5 .unk 1]⟩, ⟨false, .avs [.slice false 7 0 gv6 .unk 1]⟩, ⟨false, .hdr 8 gv7 gv8 gv9 gv10 none⟩, ⟨false, .flat gv11 (.ints .i64 gv12)⟩, ⟨false, .flat 0 (.ints .u8 gv13)⟩] K = (impl_system_solve_c2_su N (fun d0 => K (.bool (d0)) [⟨false, .flat gv1 (.ints .u8 gv2)⟩, ⟨false, .avs [.sptr [(2, 2), (3, 1), (4, 1), (5, 1)]]⟩, ⟨false, .flat 2 (.ints .i64 gv3)⟩, ⟨false, .flat 1 (.ints .i64 gv4)⟩, ⟨false, .avs [.slice false 6 0 gv5 .unk 1]⟩, ⟨false, .avs [.slice false 7 0 gv6 .unk 1]⟩, ⟨false, .hdr 8 gv7 gv8 gv9 gv10 none⟩, ⟨false, .flat gv11 (.ints .i64 gv12)⟩, ⟨false, .flat 0 (.ints .u8 gv13)⟩]) rv0 gv1 gv2 gv3 gv4 gv5 gv6 gv7 gv8 gv9 gv10 gv11 gv12 gv13) := by kernel_rfl
def impl_system_solve_c2_su.en (N : Nat) (ρ : Type) : List AV → Heap → (AV → Heap → Option ρ) → Option ρ
  | [.slice false 0 0 rv0 .unk 1, .sptr [(1, 1)]], [⟨false, .flat gv1 (.ints .u8 gv2)⟩, ⟨false, .avs [.sptr [(2, 2), (3, 1), (4, 1), (5, 1)]]⟩, ⟨false, .flat 2 (.ints .i64 gv3)⟩, ⟨false, .flat 1 (.ints .i64 gv4)⟩, ⟨false, .avs [.slice false 6 0 gv5 .unk 1]⟩, ⟨false, .avs [.slice false 7 0 gv6 .unk 1]⟩, ⟨false, .hdr 8 gv7 gv8 gv9 gv10 none⟩, ⟨false, .flat gv11 (.ints .i64 gv12)⟩, ⟨false, .flat 0 (.ints .u8 gv13)⟩], K => (impl_system_solve_c2_su N (fun d0 => K (.bool (d0)) [⟨false, .flat gv1 (.ints .u8 gv2)⟩, ⟨false, .avs [.sptr [(2, 2), (3, 1), (4, 1), (5, 1)]]⟩, ⟨false, .flat 2 (.ints .i64 gv3)⟩, ⟨false, .flat 1 (.ints .i64 gv4)⟩, ⟨false, .avs [.slice false 6 0 gv5 .unk 1]⟩, ⟨false, .avs [.slice false 7 0 gv6 .unk 1]⟩, ⟨false, .hdr 8 gv7 gv8 gv9 gv10 none⟩, ⟨false, .flat gv11 (.ints .i64 gv12)⟩, ⟨false, .flat 0 (.ints .u8 gv13)⟩]) rv0 gv1 gv2 gv3 gv4 gv5 gv6 gv7 gv8 gv9 gv10 gv11 gv12 gv13)
  | _, _, _ => none
theorem impl_system_solve_c2_su.en_ok (N : Nat) (hE : EnvOk (E58 N) ents) (ρ : Type) (args : List AV) (sh : Heap) (K : AV → Heap → Option ρ) (r : ρ) (h : impl_system_solve_c2_su.en N ρ args sh K = some r) : ∃ v sh', K v sh' = some r ∧ FnOk (E58 N).P 145 args sh v sh' := by
  unfold impl_system_solve_c2_su.en at h
  split at h
  · exact fn_ok hE (kp := impl_system_solve_c2_su.kp) (N := N) Try.func145 (c := impl_system_solve_c2_su.bd) (by kernel_rfl) ((impl_system_solve_c2_su.eq N _ _ _ _ _ _ _ _ _ _ _ _ _ _ _).trans h)
  · cases h
def E59 (N : Nat) : Env := (E58 N).add 145 (impl_system_solve_c2_su.en N)
theorem E59_ok (N : Nat) : EnvOk (E59 N) ents := Env.add_ok (E58_ok N) (impl_system_solve_c2_su.en_ok N (E58_ok N))
def slices_IndexFunc_suhf.kp : Keeps := ⟨[(0, [0, 1, 7, 8], [], [])], [(0, [], [], [])], []⟩
def slices_IndexFunc_suhf.bd : Code := bodyOf Try.f141
def slices_IndexFunc_suhf.fin {ρ : Type} (N : Nat) (K : AV → Heap → Option ρ) (gv1 : Nat) (gv2 : Nat) (gv3 : Nat → Nat) (gv4 : Nat → Nat) (gv5 : Nat → Int) (gv6 : Nat → Int) : XE → St → Option ρ := finK (E59 N) slices_IndexFunc_suhf.kp.fins Try.f141 [⟨false, .hdr 2 gv1 gv2 gv3 gv4 none⟩, ⟨false, .flat 1 (.ints .i64 gv5)⟩, ⟨false, .flat 0 (.ints .u8 gv6)⟩] K
def slices_IndexFunc_suhf.k0 {ρ : Type} (N : Nat) (K : AV → Heap → Option ρ) (gv1 : Nat) (gv2 : Nat) (gv3 : Nat → Nat) (gv4 : Nat → Nat) (gv5 : Nat → Int) (gv6 : Nat → Int) : XE → St → Option ρ := (blockK slices_IndexFunc_suhf.kp 3 0 (seqK (xcode (E59 N) ents slices_IndexFunc_suhf.kp 3 N (cB (cB slices_IndexFunc_suhf.bd)) 0) (slices_IndexFunc_suhf.fin N K gv1 gv2 gv3 gv4 gv5 gv6)))
theorem slices_IndexFunc_suhf.k0_mix {ρ : Type} (N : Nat) (K : AV → Heap → Option ρ) (gv1 : Nat) (gv2 : Nat) (gv3 : Nat → Nat) (gv4 : Nat → Nat) (gv5 : Nat → Int) (gv6 : Nat → Int) : mixK (slices_IndexFunc_suhf.fin N K gv1 gv2 gv3 gv4 gv5 gv6 .ret) (slices_IndexFunc_suhf.k0 N K gv1 gv2 gv3 gv4 gv5 gv6) = (slices_IndexFunc_suhf.k0 N K gv1 gv2 gv3 gv4 gv5 gv6) := by
  funext e s; cases e <;> kernel_rfl
def slices_IndexFunc_suhf.st0 (s0 : Nat) (gv1 : Nat) (gv2 : Nat) (gv3 : Nat → Nat) (gv4 : Nat → Nat) (gv5 : Nat → Int) (gv6 : Nat → Int) (x7 : Int) : St := ⟨sl 19 [(0, .slice false 0 0 s0 .unk 1), (1, .fn 142 0 [[(1, 1)]]), (7, .int .i64 ((s0 : Int))), (8, .int .i64 (x7))], [⟨false, .hdr 2 gv1 gv2 gv3 gv4 none⟩, ⟨false, .flat 1 (.ints .i64 gv5)⟩, ⟨false, .flat 0 (.ints .u8 gv6)⟩]⟩
def slices_IndexFunc_suhf.sx0_0 (gv1 : Nat) (gv2 : Nat) (gv3 : Nat → Nat) (gv4 : Nat → Nat) (gv5 : Nat → Int) (gv6 : Nat → Int) : St := ⟨sl 19 [], [⟨false, .hdr 2 gv1 gv2 gv3 gv4 none⟩, ⟨false, .flat 1 (.ints .i64 gv5)⟩, ⟨false, .flat 0 (.ints .u8 gv6)⟩]⟩
theorem slices_IndexFunc_suhf.b0_gen {ρ : Type} (N : Nat) (K : AV → Heap → Option ρ) (L0 : St → Option ρ) (kv : XE → St → Option ρ) (s0 : Nat) (gv1 : Nat) (gv2 : Nat) (gv3 : Nat → Nat) (gv4 : Nat → Nat) (gv5 : Nat → Int) (gv6 : Nat → Int) (x7 : Int) :
    xcode (E59 N) ents slices_IndexFunc_suhf.kp 3 N (cL (cK (cB (cA (cB slices_IndexFunc_suhf.bd))))) 0 (slices_IndexFunc_suhf.st0 s0 gv1 gv2 gv3 gv4 gv5 gv6 x7) (roundK slices_IndexFunc_suhf.kp 3 0 L0 (mixK (slices_IndexFunc_suhf.fin N K gv1 gv2 gv3 gv4 gv5 gv6 .ret) kv)) = (slices_IndexFunc_suhf.b0 N (fun d0 => K (.int .i64 (d0)) [⟨false, .hdr 2 gv1 gv2 gv3 gv4 none⟩, ⟨false, .flat 1 (.ints .i64 gv5)⟩, ⟨false, .flat 0 (.ints .u8 gv6)⟩]) (fun x7 => L0 (slices_IndexFunc_suhf.st0 s0 gv1 gv2 gv3 gv4 gv5 gv6 x7)) (kv (.exit 0) (slices_IndexFunc_suhf.sx0_0 gv1 gv2 gv3 gv4 gv5 gv6)) s0 gv3 gv4 gv5 gv6 x7) := by kernel_rfl
theorem slices_IndexFunc_suhf.b0_eq {ρ : Type} (N : Nat) (K : AV → Heap → Option ρ) (L0 : St → Option ρ) (s0 : Nat) (gv1 : Nat) (gv2 : Nat) (gv3 : Nat → Nat) (gv4 : Nat → Nat) (gv5 : Nat → Int) (gv6 : Nat → Int) (x7 : Int) :
    xcode (E59 N) ents slices_IndexFunc_suhf.kp 3 N (cL (cK (cB (cA (cB slices_IndexFunc_suhf.bd))))) 0 (slices_IndexFunc_suhf.st0 s0 gv1 gv2 gv3 gv4 gv5 gv6 x7) (roundK slices_IndexFunc_suhf.kp 3 0 L0 (slices_IndexFunc_suhf.k0 N K gv1 gv2 gv3 gv4 gv5 gv6)) = (slices_IndexFunc_suhf.b0 N (fun d0 => K (.int .i64 (d0)) [⟨false, .hdr 2 gv1 gv2 gv3 gv4 none⟩, ⟨false, .flat 1 (.ints .i64 gv5)⟩, ⟨false, .flat 0 (.ints .u8 gv6)⟩]) (fun x7 => L0 (slices_IndexFunc_suhf.st0 s0 gv1 gv2 gv3 gv4 gv5 gv6 x7)) ((slices_IndexFunc_suhf.k0 N K gv1 gv2 gv3 gv4 gv5 gv6) (.exit 0) (slices_IndexFunc_suhf.sx0_0 gv1 gv2 gv3 gv4 gv5 gv6)) s0 gv3 gv4 gv5 gv6 x7) := by
  have h := slices_IndexFunc_suhf.b0_gen N K L0 (slices_IndexFunc_suhf.k0 N K gv1 gv2 gv3 gv4 gv5 gv6) s0 gv1 gv2 gv3 gv4 gv5 gv6 x7
  rw [slices_IndexFunc_suhf.k0_mix] at h
  exact h
theorem slices_IndexFunc_suhf.a0_0_eq {ρ : Type} (N : Nat) (K : AV → Heap → Option ρ) (gv1 : Nat) (gv2 : Nat) (gv3 : Nat → Nat) (gv4 : Nat → Nat) (gv5 : Nat → Int) (gv6 : Nat → Int) :
    (slices_IndexFunc_suhf.k0 N K gv1 gv2 gv3 gv4 gv5 gv6) (.exit 0) (slices_IndexFunc_suhf.sx0_0 gv1 gv2 gv3 gv4 gv5 gv6) = (slices_IndexFunc_suhf.a0_0 N (fun d0 => K (.int .i64 (d0)) [⟨false, .hdr 2 gv1 gv2 gv3 gv4 none⟩, ⟨false, .flat 1 (.ints .i64 gv5)⟩, ⟨false, .flat 0 (.ints .u8 gv6)⟩])) := by kernel_rfl
theorem slices_IndexFunc_suhf.l0_eq {ρ : Type} (N : Nat) (K : AV → Heap → Option ρ) (s0 : Nat) (gv1 : Nat) (gv2 : Nat) (gv3 : Nat → Nat) (gv4 : Nat → Nat) (gv5 : Nat → Int) (gv6 : Nat → Int) :
    ∀ (m : Nat) (x7 : Int), xloop (xcode (E59 N) ents slices_IndexFunc_suhf.kp 3 N (cL (cK (cB (cA (cB slices_IndexFunc_suhf.bd))))) 0) slices_IndexFunc_suhf.kp 3 0 m (slices_IndexFunc_suhf.st0 s0 gv1 gv2 gv3 gv4 gv5 gv6 x7) (slices_IndexFunc_suhf.k0 N K gv1 gv2 gv3 gv4 gv5 gv6) = (slices_IndexFunc_suhf.l0 N (fun d0 => K (.int .i64 (d0)) [⟨false, .hdr 2 gv1 gv2 gv3 gv4 none⟩, ⟨false, .flat 1 (.ints .i64 gv5)⟩, ⟨false, .flat 0 (.ints .u8 gv6)⟩]) s0 gv3 gv4 gv5 gv6 ((slices_IndexFunc_suhf.k0 N K gv1 gv2 gv3 gv4 gv5 gv6) (.exit 0) (slices_IndexFunc_suhf.sx0_0 gv1 gv2 gv3 gv4 gv5 gv6)) m x7) := by
  intro m
  induction m with
  | zero => intros; rfl
  | succ m ih =>
    intro x7
    refine (slices_IndexFunc_suhf.b0_eq N K (fun s => xloop (xcode (E59 N) ents slices_IndexFunc_suhf.kp 3 N (cL (cK (cB (cA (cB slices_IndexFunc_suhf.bd))))) 0) slices_IndexFunc_suhf.kp 3 0 m s (slices_IndexFunc_suhf.k0 N K gv1 gv2 gv3 gv4 gv5 gv6)) s0 gv1 gv2 gv3 gv4 gv5 gv6 x7).trans ?_
    simp only [ih]
    kernel_rfl
theorem slices_IndexFunc_suhf.s_eq {ρ : Type} (N : Nat) (K : AV → Heap → Option ρ) (s0 : Nat) (gv1 : Nat) (gv2 : Nat) (gv3 : Nat → Nat) (gv4 : Nat → Nat) (gv5 : Nat → Int) (gv6 : Nat → Int) :
    xbody (E59 N) ents slices_IndexFunc_suhf.kp N Try.f141 slices_IndexFunc_suhf.bd [.slice false 0 0 s0 .unk 1, .fn 142 0 [[(1, 1)]]] [⟨false, .hdr 2 gv1 gv2 gv3 gv4 none⟩, ⟨false, .flat 1 (.ints .i64 gv5)⟩, ⟨false, .flat 0 (.ints .u8 gv6)⟩] K = (slices_IndexFunc_suhf.s N (fun d0 => K (.int .i64 (d0)) [⟨false, .hdr 2 gv1 gv2 gv3 gv4 none⟩, ⟨false, .flat 1 (.ints .i64 gv5)⟩, ⟨false, .flat 0 (.ints .u8 gv6)⟩]) (fun x7 => xloop (xcode (E59 N) ents slices_IndexFunc_suhf.kp 3 N (cL (cK (cB (cA (cB slices_IndexFunc_suhf.bd))))) 0) slices_IndexFunc_suhf.kp 3 0 N (slices_IndexFunc_suhf.st0 s0 gv1 gv2 gv3 gv4 gv5 gv6 x7) (slices_IndexFunc_suhf.k0 N K gv1 gv2 gv3 gv4 gv5 gv6))) := by kernel_rfl
theorem slices_IndexFunc_suhf.eq {ρ : Type} (N : Nat) (K : AV → Heap → Option ρ) (s0 : Nat) (gv1 : Nat) (gv2 : Nat) (gv3 : Nat → Nat) (gv4 : Nat → Nat) (gv5 : Nat → Int) (gv6 : Nat → Int) :
    xbody (E59 N) ents slices_IndexFunc_suhf.kp N Try.f141 slices_IndexFunc_suhf.bd [.slice false 0 0 s0 .unk 1, .fn 142 0 [[(1, 1)]]] [⟨false, .hdr 2 gv1 gv2 gv3 gv4 none⟩, ⟨false, .flat 1 (.ints .i64 gv5)⟩, ⟨false, .flat 0 (.ints .u8 gv6)⟩] K = (slices_IndexFunc_suhf N (fun d0 => K (.int .i64 (d0)) [⟨false, .hdr 2 gv1 gv2 gv3 gv4 none⟩, ⟨false, .flat 1 (.ints .i64 gv5)⟩, ⟨false, .flat 0 (.ints .u8 gv6)⟩]) s0 gv1 gv2 gv3 gv4 gv5 gv6) := by
  refine (slices_IndexFunc_suhf.s_eq N K s0 gv1 gv2 gv3 gv4 gv5 gv6).trans ?_
  simp only [slices_IndexFunc_suhf.l0_eq, slices_IndexFunc_suhf.a0_0_eq]
  kernel_rfl
def slices_IndexFunc_suhf_v2.kp : Keeps := ⟨[(0, [0, 1, 7, 8], [], [])], [(0, [], [], [])], []⟩
def slices_IndexFunc_suhf_v2.bd : Code := bodyOf Try.f141
def slices_IndexFunc_suhf_v2.fin {ρ : Type} (N : Nat) (K : AV → Heap → Option ρ) (gv1 : Nat) (gv2 : Nat) (gv3 : Nat → Nat) (gv4 : Nat → Nat) (gv5 : Nat → Int) (gv6 : Nat → Int) (gv7 : Nat → Int) (gv8 : Nat) (gv9 : Nat) (gv10 : Nat) (gv11 : Nat) (gv12 : Nat → Nat) (gv13 : Nat → Nat) (gv14 : Nat) (gv15 : Nat → Int) : XE → St → Option ρ := finK (E59 N) slices_IndexFunc_suhf_v2.kp.fins Try.f141 [⟨false, .hdr 2 gv1 gv2 gv3 gv4 none⟩, ⟨false, .avs [.sptr [(3, 2), (4, 1), (5, 1), (6, 1)]]⟩, ⟨false, .flat 0 (.ints .u8 gv5)⟩, ⟨false, .flat 2 (.ints .i64 gv6)⟩, ⟨false, .flat 1 (.ints .i64 gv7)⟩, ⟨false, .avs [.slice false 7 0 gv8 .unk 1]⟩, ⟨false, .avs [.slice false 8 0 gv9 .unk 1]⟩, ⟨false, .hdr 2 gv10 gv11 gv12 gv13 none⟩, ⟨false, .flat gv14 (.ints .i64 gv15)⟩] K
def slices_IndexFunc_suhf_v2.k0 {ρ : Type} (N : Nat) (K : AV → Heap → Option ρ) (gv1 : Nat) (gv2 : Nat) (gv3 : Nat → Nat) (gv4 : Nat → Nat) (gv5 : Nat → Int) (gv6 : Nat → Int) (gv7 : Nat → Int) (gv8 : Nat) (gv9 : Nat) (gv10 : Nat) (gv11 : Nat) (gv12 : Nat → Nat) (gv13 : Nat → Nat) (gv14 : Nat) (gv15 : Nat → Int) : XE → St → Option ρ := (blockK slices_IndexFunc_suhf_v2.kp 9 0 (seqK (xcode (E59 N) ents slices_IndexFunc_suhf_v2.kp 9 N (cB (cB slices_IndexFunc_suhf_v2.bd)) 0) (slices_IndexFunc_suhf_v2.fin N K gv1 gv2 gv3 gv4 gv5 gv6 gv7 gv8 gv9 gv10 gv11 gv12 gv13 gv14 gv15)))
theorem slices_IndexFunc_suhf_v2.k0_mix {ρ : Type} (N : Nat) (K : AV → Heap → Option ρ) (gv1 : Nat) (gv2 : Nat) (gv3 : Nat → Nat) (gv4 : Nat → Nat) (gv5 : Nat → Int) (gv6 : Nat → Int) (gv7 : Nat → Int) (gv8 : Nat) (gv9 : Nat) (gv10 : Nat) (gv11 : Nat) (gv12 : Nat → Nat) (gv13 : Nat → Nat) (gv14 : Nat) (gv15 : Nat → Int) : mixK (slices_IndexFunc_suhf_v2.fin N K gv1 gv2 gv3 gv4 gv5 gv6 gv7 gv8 gv9 gv10 gv11 gv12 gv13 gv14 gv15 .ret) (slices_IndexFunc_suhf_v2.k0 N K gv1 gv2 gv3 gv4 gv5 gv6 gv7 gv8 gv9 gv10 gv11 gv12 gv13 gv14 gv15) = (slices_IndexFunc_suhf_v2.k0 N K gv1 gv2 gv3 gv4 gv5 gv6 gv7 gv8 gv9 gv10 gv11 gv12 gv13 gv14 gv15) := by
  funext e s; cases e <;> kernel_rfl
def slices_IndexFunc_suhf_v2.st0 (s0 : Nat) (gv1 : Nat) (gv2 : Nat) (gv3 : Nat → Nat) (gv4 : Nat → Nat) (gv5 : Nat → Int) (gv6 : Nat → Int) (gv7 : Nat → Int) (gv8 : Nat) (gv9 : Nat) (gv10 : Nat) (gv11 : Nat) (gv12 : Nat → Nat) (gv13 : Nat → Nat) (gv14 : Nat) (gv15 : Nat → Int) (x16 : Int) : St := ⟨sl 19 [(0, .slice false 0 0 s0 .unk 1), (1, .fn 145 0 [[(1, 1)]]), (7, .int .i64 ((s0 : Int))), (8, .int .i64 (x16))], [⟨false, .hdr 2 gv1 gv2 gv3 gv4 none⟩, ⟨false, .avs [.sptr [(3, 2), (4, 1), (5, 1), (6, 1)]]⟩, ⟨false, .flat 0 (.ints .u8 gv5)⟩, ⟨false, .flat 2 (.ints .i64 gv6)⟩, ⟨false, .flat 1 (.ints .i64 gv7)⟩, ⟨false, .avs [.slice false 7 0 gv8 .unk 1]⟩, ⟨false, .avs [.slice false 8 0 gv9 .unk 1]⟩, ⟨false, .hdr 2 gv10 gv11 gv12 gv13 none⟩, ⟨false, .flat gv14 (.ints .i64 gv15)⟩]⟩
def slices_IndexFunc_suhf_v2.sx0_0 (gv1 : Nat) (gv2 : Nat) (gv3 : Nat → Nat) (gv4 : Nat → Nat) (gv5 : Nat → Int) (gv6 : Nat → Int) (gv7 : Nat → Int) (gv8 : Nat) (gv9 : Nat) (gv10 : Nat) (gv11 : Nat) (gv12 : Nat → Nat) (gv13 : Nat → Nat) (gv14 : Nat) (gv15 : Nat → Int) : St := ⟨sl 19 [], [⟨false, .hdr 2 gv1 gv2 gv3 gv4 none⟩, ⟨false, .avs [.sptr [(3, 2), (4, 1), (5, 1), (6, 1)]]⟩, ⟨false, .flat 0 (.ints .u8 gv5)⟩, ⟨false, .flat 2 (.ints .i64 gv6)⟩, ⟨false, .flat 1 (.ints .i64 gv7)⟩, ⟨false, .avs [.slice false 7 0 gv8 .unk 1]⟩, ⟨false, .avs [.slice false 8 0 gv9 .unk 1]⟩, ⟨false, .hdr 2 gv10 gv11 gv12 gv13 none⟩, ⟨false, .flat gv14 (.ints .i64 gv15)⟩]⟩
theorem slices_IndexFunc_suhf_v2.b0_gen {ρ : Type} (N : Nat) (K : AV → Heap → Option ρ) (L0 : St → Option ρ) (kv : XE → St → Option ρ) (s0 : Nat) (gv1 : Nat) (gv2 : Nat) (gv3 : Nat → Nat) (gv4 : Nat → Nat) (gv5 : Nat → Int) (gv6 : Nat → Int) (gv7 : Nat → Int) (gv8 : Nat) (gv9 : Nat) (gv10 : Nat) (gv11 : Nat) (gv12 : Nat → Nat) (gv13 : Nat → Nat) (gv14 : Nat) (gv15 : Nat → Int) (x16 : Int) :
    xcode (E59 N) ents slices_IndexFunc_suhf_v2.kp 9 N (cL (cK (cB (cA (cB slices_IndexFunc_suhf_v2.bd))))) 0 (slices_IndexFunc_suhf_v2.st0 s0 gv1 gv2 gv3 gv4 gv5 gv6 gv7 gv8 gv9 gv10 gv11 gv12 gv13 gv14 gv15 x16) (roundK slices_IndexFunc_suhf_v2.kp 9 0 L0 (mixK (slices_IndexFunc_suhf_v2.fin N K gv1 gv2 gv3 gv4 gv5 gv6 gv7 gv8 gv9 gv10 gv11 gv12 gv13 gv14 gv15 .ret) kv)) = (slices_IndexFunc_suhf_v2.b0 N (fun d0 => K (.int .i64 (d0)) [⟨false, .hdr 2 gv1 gv2 gv3 gv4 none⟩, ⟨false, .avs [.sptr [(3, 2), (4, 1), (5, 1), (6, 1)]]⟩, ⟨false, .flat 0 (.ints .u8 gv5)⟩, ⟨false, .flat 2 (.ints .i64 gv6)⟩, ⟨false, .flat 1 (.ints .i64 gv7)⟩, ⟨false, .avs [.slice false 7 0 gv8 .unk 1]⟩, ⟨false, .avs [.slice false 8 0 gv9 .unk 1]⟩, ⟨false, .hdr 2 gv10 gv11 gv12 gv13 none⟩, ⟨false, .flat gv14 (.ints .i64 gv15)⟩]) (fun x16 => L0 (slices_IndexFunc_suhf_v2.st0 s0 gv1 gv2 gv3 gv4 gv5 gv6 gv7 gv8 gv9 gv10 gv11 gv12 gv13 gv14 gv15 x16)) (kv (.exit 0) (slices_IndexFunc_suhf_v2.sx0_0 gv1 gv2 gv3 gv4 gv5 gv6 gv7 gv8 gv9 gv10 gv11 gv12 gv13 gv14 gv15)) s0 gv3 gv4 gv5 gv6 gv7 gv8 gv9 gv11 gv12 gv13 gv15 x16) := by kernel_rfl
theorem slices_IndexFunc_suhf_v2.b0_eq {ρ : Type} (N : Nat) (K : AV → Heap → Option ρ) (L0 : St → Option ρ) (s0 : Nat) (gv1 : Nat) (gv2 : Nat) (gv3 : Nat → Nat) (gv4 : Nat → Nat) (gv5 : Nat → Int) (gv6 : Nat → Int) (gv7 : Nat → Int) (gv8 : Nat) (gv9 : Nat) (gv10 : Nat) (gv11 : Nat) (gv12 : Nat → Nat) (gv13 : Nat → Nat) (gv14 : Nat) (gv15 : Nat → Int) (x16 : Int) :
    xcode (E59 N) ents slices_IndexFunc_suhf_v2.kp 9 N (cL (cK (cB (cA (cB slices_IndexFunc_suhf_v2.bd))))) 0 (slices_IndexFunc_suhf_v2.st0 s0 gv1 gv2 gv3 gv4 gv5 gv6 gv7 gv8 gv9 gv10 gv11 gv12 gv13 gv14 gv15 x16) (roundK slices_IndexFunc_suhf_v2.kp 9 0 L0 (slices_IndexFunc_suhf_v2.k0 N K gv1 gv2 gv3 gv4 gv5 gv6 gv7 gv8 gv9 gv10 gv11 gv12 gv13 gv14 gv15)) = (slices_IndexFunc_suhf_v2.b0 N (fun d0 => K (.int .i64 (d0)) [⟨false, .hdr 2 gv1 gv2 gv3 gv4 none⟩, ⟨false, .avs [.sptr [(3, 2), (4, 1), (5, 1), (6, 1)]]⟩, ⟨false, .flat 0 (.ints .u8 gv5)⟩, ⟨false, .flat 2 (.ints .i64 gv6)⟩, ⟨false, .flat 1 (.ints .i64 gv7)⟩, ⟨false, .avs [.slice false 7 0 gv8 .unk 1]⟩, ⟨false, .avs [.slice false 8 0 gv9 .unk 1]⟩, ⟨false, .hdr 2 gv10 gv11 gv12 gv13 none⟩, ⟨false, .flat gv14 (.ints .i64 gv15)⟩]) (fun x16 => L0 (slices_IndexFunc_suhf_v2.st0 s0 gv1 gv2 gv3 gv4 gv5 gv6 gv7 gv8 gv9 gv10 gv11 gv12 gv13 gv14 gv15 x16)) ((slices_IndexFunc_suhf_v2.k0 N K gv1 gv2 gv3 gv4 gv5 gv6 gv7 gv8 gv9 gv10 gv11 gv12 gv13 gv14 gv15) (.exit 0) (slices_IndexFunc_suhf_v2.sx0_0 gv1 gv2 gv3 gv4 gv5 gv6 gv7 gv8 gv9 gv10 gv11 gv12 gv13 gv14 gv15)) s0 gv3 gv4 gv5 gv6 gv7 gv8 gv9 gv11 gv12 gv13 gv15 x16) := by
  have h := slices_IndexFunc_suhf_v2.b0_gen N K L0 (slices_IndexFunc_suhf_v2.k0 N K gv1 gv2 gv3 gv4 gv5 gv6 gv7 gv8 gv9 gv10 gv11 gv12 gv13 gv14 gv15) s0 gv1 gv2 gv3 gv4 gv5 gv6 gv7 gv8 gv9 gv10 gv11 gv12 gv13 gv14 gv15 x16
  rw [slices_IndexFunc_suhf_v2.k0_mix] at h
  exact h
theorem slices_IndexFunc_suhf_v2.a0_0_eq {ρ : Type} (N : Nat) (K : AV → Heap → Option ρ) (gv1 : Nat) (gv2 : Nat) (gv3 : Nat → Nat) (gv4 : Nat → Nat) (gv5 : Nat → Int) (gv6 : Nat → Int) (gv7 : Nat → Int) (gv8 : Nat) (gv9 : Nat) (gv10 : Nat) (gv11 : Nat) (gv12 : Nat → Nat) (gv13 : Nat → Nat) (gv14 : Nat) (gv15 : Nat → Int) :
    (slices_IndexFunc_suhf_v2.k0 N K gv1 gv2 gv3 gv4 gv5 gv6 gv7 gv8 gv9 gv10 gv11 gv12 gv13 gv14 gv15) (.exit 0) (slices_IndexFunc_suhf_v2.sx0_0 gv1 gv2 gv3 gv4 gv5 gv6 gv7 gv8 gv9 gv10 gv11 gv12 gv13 gv14 gv15) = (slices_IndexFunc_suhf_v2.a0_0 N (fun d0 => K (.int .i64 (d0)) [⟨false, .hdr 2 gv1 gv2 gv3 gv4 none⟩, ⟨false, .avs [.sptr [(3, 2), (4, 1), (5, 1), (6, 1)]]⟩, ⟨false, .flat 0 (.ints .u8 gv5)⟩, ⟨false, .flat 2 (.ints .i64 gv6)⟩, ⟨false, .flat 1 (.ints .i64 gv7)⟩, ⟨false, .avs [.slice false 7 0 gv8 .unk 1]⟩, ⟨false, .avs [.slice false 8 0 gv9 .unk 1]⟩, ⟨false, .hdr 2 gv10 gv11 gv12 gv13 none⟩, ⟨false, .flat gv14 (.ints .i64 gv15)⟩])) := by kernel_rfl
theorem slices_IndexFunc_suhf_v2.l0_eq {ρ : Type} (N : Nat) (K : AV → Heap → Option ρ) (s0 : Nat) (gv1 : Nat) (gv2 : Nat) (gv3 : Nat → Nat) (gv4 : Nat → Nat) (gv5 : Nat → Int) (gv6 : Nat → Int) (gv7 : Nat → Int) (gv8 : Nat) (gv9 : Nat) (gv10 : Nat) (gv11 : Nat) (gv12 : Nat → Nat) (gv13 : Nat → Nat) (gv14 : Nat) (gv15 : Nat → Int) :
    ∀ (m : Nat) (x16 : Int), xloop (xcode (E59 N) ents slices_IndexFunc_suhf_v2.kp 9 N (cL (cK (cB (cA (cB slices_IndexFunc_suhf_v2.bd))))) 0) slices_IndexFunc_suhf_v2.kp 9 0 m (slices_IndexFunc_suhf_v2.st0 s0 gv1 gv2 gv3 gv4 gv5 gv6 gv7 gv8 gv9 gv10 gv11 gv12 gv13 gv14 gv15 x16) (slices_IndexFunc_suhf_v2.k0 N K gv1 gv2 gv3 gv4 gv5 gv6 gv7 gv8 gv9 gv10 gv11 gv12 gv13 gv14 gv15) = (slices_IndexFunc_suhf_v2.l0 N (fun d0 => K (.int .i64 (d0)) [⟨false, .hdr 2 gv1 gv2 gv3 gv4 none⟩, ⟨false, .avs [.sptr [(3, 2), (4, 1), (5, 1), (6, 1)]]⟩, ⟨false, .flat 0 (.ints .u8 gv5)⟩, ⟨false, .flat 2 (.ints .i64 gv6)⟩, ⟨false, .flat 1 (.ints .i64 gv7)⟩, ⟨false, .avs [.slice false 7 0 gv8 .unk 1]⟩, ⟨false, .avs [.slice false 8 0 gv9 .unk 1]⟩, ⟨false, .hdr 2 gv10 gv11 gv12 gv13 none⟩, ⟨false, .flat gv14 (.ints .i64 gv15)⟩]) s0 gv3 gv4 gv5 gv6 gv7 gv8 gv9 gv11 gv12 gv13 gv15 ((slices_IndexFunc_suhf_v2.k0 N K gv1 gv2 gv3 gv4 gv5 gv6 gv7 gv8 gv9 gv10 gv11 gv12 gv13 gv14 gv15) (.exit 0) (slices_IndexFunc_suhf_v2.sx0_0 gv1 gv2 gv3 gv4 gv5 gv6 gv7 gv8 gv9 gv10 gv11 gv12 gv13 gv14 gv15)) m x16) := by
  intro m
  induction m with
  | zero => intros; rfl
  | succ m ih =>
    intro x16
    refine (slices_IndexFunc_suhf_v2.b0_eq N K (fun s => xloop (xcode (E59 N) ents slices_IndexFunc_suhf_v2.kp 9 N (cL (cK (cB (cA (cB slices_IndexFunc_suhf_v2.bd))))) 0) slices_IndexFunc_suhf_v2.kp 9 0 m s (slices_IndexFunc_suhf_v2.k0 N K gv1 gv2 gv3 gv4 gv5 gv6 gv7 gv8 gv9 gv10 gv11 gv12 gv13 gv14 gv15)) s0 gv1 gv2 gv3 gv4 gv5 gv6 gv7 gv8 gv9 gv10 gv11 gv12 gv13 gv14 gv15 x16).trans ?_
    simp only [ih]
    kernel_rfl
theorem slices_IndexFunc_suhf_v2.s_eq {ρ : Type} (N : Nat) (K : AV → Heap → Option ρ) (s0 : Nat) (gv1 : Nat) (gv2 : Nat) (gv3 : Nat → Nat) (gv4 : Nat → Nat) (gv5 : Nat → Int) (gv6 : Nat → Int) (gv7 : Nat → Int) (gv8 : Nat) (gv9 : Nat) (gv10 : Nat) (gv11 : Nat) (gv12 : Nat → Nat) (gv13 : Nat → Nat) (gv14 : Nat) (gv15 : Nat → Int) :
    xbody (E59 N) ents slices_IndexFunc_suhf_v2.kp N Try.f141 slices_IndexFunc_suhf_v2.bd [.slice false 0 0 s0 .unk 1, .fn 145 0 [[(1, 1)]]] [⟨false, .hdr 2 gv1 gv2 gv3 gv4 none⟩, ⟨false, .avs [.sptr [(3, 2), (4, 1), (5, 1), (6, 1)]]⟩, ⟨false, .flat 0 (.ints .u8 gv5)⟩, ⟨false, .flat 2 (.ints .i64 gv6)⟩, ⟨false, .flat 1 (.ints .i64 gv7)⟩, ⟨false, .avs [.slice false 7 0 gv8 .unk 1]⟩, ⟨false, .avs [.slice false 8 0 gv9 .unk 1]⟩, ⟨false, .hdr 2 gv10 gv11 gv12 gv13 none⟩, ⟨false, .flat gv14 (.ints .i64 gv15)⟩] K = (slices_IndexFunc_suhf_v2.s N (fun d0 => K (.int .i64 (d0)) [⟨false, .hdr 2 gv1 gv2 gv3 gv4 none⟩, ⟨false, .avs [.sptr [(3, 2), (4, 1), (5, 1), (6, 1)]]⟩, ⟨false, .flat 0 (.ints .u8 gv5)⟩, ⟨false, .flat 2 (.ints .i64 gv6)⟩, ⟨false, .flat 1 (.ints .i64 gv7)⟩, ⟨false, .avs [.slice false 7 0 gv8 .unk 1]⟩, ⟨false, .avs [.slice false 8 0 gv9 .unk 1]⟩, ⟨false, .hdr 2 gv10 gv11 gv12 gv13 none⟩, ⟨false, .flat gv14 (.ints .i64 gv15)⟩]) (fun x16 => xloop (xcode (E59 N) ents slices_IndexFunc_suhf_v2.kp 9 N (cL (cK (cB (cA (cB slices_IndexFunc_suhf_v2.bd))))) 0) slices_IndexFunc_suhf_v2.kp 9 0 N (slices_IndexFunc_suhf_v2.st0 s0 gv1 gv2 gv3 gv4 gv5 gv6 gv7 gv8 gv9 gv10 gv11 gv12 gv13 gv14 gv15 x16) (slices_IndexFunc_suhf_v2.k0 N K gv1 gv2 gv3 gv4 gv5 gv6 gv7 gv8 gv9 gv10 gv11 gv12 gv13 gv14 gv15))) := by kernel_rfl
theorem slices_IndexFunc_suhf_v2.eq {ρ : Type} (N : Nat) (K : AV → Heap → Option ρ) (s0 : Nat) (gv1 : Nat) (gv2 : Nat) (gv3 : Nat → Nat) (gv4 : Nat → Nat) (gv5 : Nat → Int) (gv6 : Nat → Int) (gv7 : Nat → Int) (gv8 : Nat) (gv9 : Nat) (gv10 : Nat) (gv11 : Nat) (gv12 : Nat → Nat) (gv13 : Nat → Nat) (gv14 : Nat) (gv15 : Nat → Int) :
    xbody (E59 N) ents slices_IndexFunc_suhf_v2.kp N Try.f141 slices_IndexFunc_suhf_v2.bd [.slice false 0 0 s0 .unk 1, .fn 145 0 [[(1, 1)]]] [⟨false, .hdr 2 gv1 gv2 gv3 gv4 none⟩, ⟨false, .avs [.sptr [(3, 2), (4, 1), (5, 1), (6, 1)]]⟩, ⟨false, .flat 0 (.ints .u8 gv5)⟩, ⟨false, .flat 2 (.ints .i64 gv6)⟩, ⟨false, .flat 1 (.ints .i64 gv7)⟩, ⟨false, .avs [.slice false 7 0 gv8 .unk 1]⟩, ⟨false, .avs [.slice false 8 0 gv9 .unk 1]⟩, ⟨false, .hdr 2 gv10 gv11 gv12 gv13 none⟩, ⟨false, .flat gv14 (.ints .i64 gv15)⟩] K = (slices_IndexFunc_suhf_v2 N (fun d0 => K (.int .i64 (d0)) [⟨false, .hdr 2 gv1 gv2 gv3 gv4 none⟩, ⟨false, .avs [.sptr [(3, 2), (4, 1), (5, 1), (6, 1)]]⟩, ⟨false, .flat 0 (.ints .u8 gv5)⟩, ⟨false, .flat 2 (.ints .i64 gv6)⟩, ⟨false, .flat 1 (.ints .i64 gv7)⟩, ⟨false, .avs [.slice false 7 0 gv8 .unk 1]⟩, ⟨false, .avs [.slice false 8 0 gv9 .unk 1]⟩, ⟨false, .hdr 2 gv10 gv11 gv12 gv13 none⟩, ⟨false, .flat gv14 (.ints .i64 gv15)⟩]) s0 gv1 gv2 gv3 gv4 gv5 gv6 gv7 gv8 gv9 gv10 gv11 gv12 gv13 gv14 gv15) := by
  refine (slices_IndexFunc_suhf_v2.s_eq N K s0 gv1 gv2 gv3 gv4 gv5 gv6 gv7 gv8 gv9 gv10 gv11 gv12 gv13 gv14 gv15).trans ?_
  simp only [slices_IndexFunc_suhf_v2.l0_eq, slices_IndexFunc_suhf_v2.a0_0_eq]
  kernel_rfl
def slices_IndexFunc_suhf.en (N : Nat) (ρ : Type) : List AV → Heap → (AV → Heap → Option ρ) → Option ρ
  | [.slice false 0 0 s0 .unk 1, .fn 142 0 [[(1, 1)]]], [⟨false, .hdr 2 gv1 gv2 gv3 gv4 none⟩, ⟨false, .flat 1 (.ints .i64 gv5)⟩, ⟨false, .flat 0 (.ints .u8 gv6)⟩], K => (slices_IndexFunc_suhf N (fun d0 => K (.int .i64 (d0)) [⟨false, .hdr 2 gv1 gv2 gv3 gv4 none⟩, ⟨false, .flat 1 (.ints .i64 gv5)⟩, ⟨false, .flat 0 (.ints .u8 gv6)⟩]) s0 gv1 gv2 gv3 gv4 gv5 gv6)
  | [.slice false 0 0 s0 .unk 1, .fn 145 0 [[(1, 1)]]], [⟨false, .hdr 2 gv1 gv2 gv3 gv4 none⟩, ⟨false, .avs [.sptr [(3, 2), (4, 1), (5, 1), (6, 1)]]⟩, ⟨false, .flat 0 (.ints .u8 gv5)⟩, ⟨false, .flat 2 (.ints .i64 gv6)⟩, ⟨false, .flat 1 (.ints .i64 gv7)⟩, ⟨false, .avs [.slice false 7 0 gv8 .unk 1]⟩, ⟨false, .avs [.slice false 8 0 gv9 .unk 1]⟩, ⟨false, .hdr 2 gv10 gv11 gv12 gv13 none⟩, ⟨false, .flat gv14 (.ints .i64 gv15)⟩], K => (slices_IndexFunc_suhf_v2 N (fun d0 => K (.int .i64 (d0)) [⟨false, .hdr 2 gv1 gv2 gv3 gv4 none⟩, ⟨false, .avs [.sptr [(3, 2), (4, 1), (5, 1), (6, 1)]]⟩, ⟨false, .flat 0 (.ints .u8 gv5)⟩, ⟨false, .flat 2 (.ints .i64 gv6)⟩, ⟨false, .flat 1 (.ints .i64 gv7)⟩, ⟨false, .avs [.slice false 7 0 gv8 .unk 1]⟩, ⟨false, .avs [.slice false 8 0 gv9 .unk 1]⟩, ⟨false, .hdr 2 gv10 gv11 gv12 gv13 none⟩, ⟨false, .flat gv14 (.ints .i64 gv15)⟩]) s0 gv1 gv2 gv3 gv4 gv5 gv6 gv7 gv8 gv9 gv10 gv11 gv12 gv13 gv14 gv15)
  | _, _, _ => none
theorem slices_IndexFunc_suhf.en_ok (N : Nat) (hE : EnvOk (E59 N) ents) (ρ : Type) (args : List AV) (sh : Heap) (K : AV → Heap → Option ρ) (r : ρ) (h : slices_IndexFunc_suhf.en N ρ args sh K = some r) : ∃ v sh', K v sh' = some r ∧ FnOk (E59 N).P 141 args sh v sh' := by
  unfold slices_IndexFunc_suhf.en at h
  split at h
  · exact fn_ok hE (kp := slices_IndexFunc_suhf.kp) (N := N) Try.func141 (c := slices_IndexFunc_suhf.bd) (by kernel_rfl) ((slices_IndexFunc_suhf.eq N _ _ _ _ _ _ _ _).trans h)
  · exact fn_ok hE (kp := slices_IndexFunc_suhf_v2.kp) (N := N) Try.func141 (c := slices_IndexFunc_suhf_v2.bd) (by kernel_rfl) ((slices_IndexFunc_suhf_v2.eq N _ _ _ _ _ _ _ _ _ _ _ _ _ _ _ _ _).trans h)
  · cases h
def E60 (N : Nat) : Env := (E59 N).add 141 (slices_IndexFunc_suhf.en N)
theorem E60_ok (N : Nat) : EnvOk (E60 N) ents := Env.add_ok (E59_ok N) (slices_IndexFunc_suhf.en_ok N (E59_ok N))
end
end Go.Proofs.Ythecjjnieojjoaa.H
