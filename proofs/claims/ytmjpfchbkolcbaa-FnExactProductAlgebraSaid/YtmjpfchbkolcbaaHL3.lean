/- The program computes these functions. -/
import Derived.Test.YtmjpfchbkolcbaaHL2
namespace Go.Proofs.Ytmjpfchbkolcbaa.H
set_option linter.unusedVariables false
set_option linter.unusedSimpArgs false
open Go Go.RowKit Go.Proofs.Ytmjpfchbkolcbaa.Hx
set_option linter.unusedVariables false
set_option maxRecDepth 100000
noncomputable def impl_Algebra_power.kp : Keeps := ⟨[(0, [0, 4, 6, 7, 12, 13], 5)], [(0, [6, 7], 5)]⟩

noncomputable def impl_Algebra_power.bd : Code := bodyOf Go.Proofs.Try.f69

noncomputable def impl_Algebra_power.fin {ρ : Type} (N : Nat) (K : AV → Heap → Option ρ) (g2 : Nat → Int) (g3 : Nat → Int) : XE → St → Option ρ := finK (E63 N) Go.Proofs.Try.f69 [⟨false, .ints .i64 2 g2⟩, ⟨false, .ints .u8 520 g3⟩] K

noncomputable def impl_Algebra_power.k0 {ρ : Type} (N : Nat) (K : AV → Heap → Option ρ) (g2 : Nat → Int) (g3 : Nat → Int) : XE → St → Option ρ := (blockK impl_Algebra_power.kp 2 0 (seqK (xcode (E63 N) ents impl_Algebra_power.kp 2 N (cB (cB (cB impl_Algebra_power.bd))) 0) (impl_Algebra_power.fin N K g2 g3)))

theorem impl_Algebra_power.k0_mix {ρ : Type} (N : Nat) (K : AV → Heap → Option ρ) (g2 : Nat → Int) (g3 : Nat → Int) : mixK (impl_Algebra_power.fin N K g2 g3 .ret) (impl_Algebra_power.k0 N K g2 g3) = (impl_Algebra_power.k0 N K g2 g3) := by
  funext e s; cases e <;> rfl

noncomputable def impl_Algebra_power.st0 (v0 : Nat → Int) (k1 : Int) (g2 : Nat → Int) (g3 : Nat → Int) (x4 : Int) (g5 : Nat → Int) : St := ⟨sl 21 [(0, .sptr [(0, 2), (1, 520)]), (4, .sptr [(2, 8)]), (6, .sptr [(3, 8)]), (7, .sptr [(4, 8)]), (12, .int .i64 (k1)), (13, .int .i64 (x4))], [⟨false, .ints .i64 2 g2⟩, ⟨false, .ints .u8 520 g3⟩, ⟨true, .ints .u8 8 v0⟩, ⟨true, .ints .u8 8 (fun _ => 0)⟩, ⟨true, .ints .u8 8 g5⟩]⟩

noncomputable def impl_Algebra_power.sx0_0 (v0 : Nat → Int) (g2 : Nat → Int) (g3 : Nat → Int) (o7 : Nat → Int) : St := ⟨sl 21 [(6, .sptr [(3, 8)]), (7, .sptr [(4, 8)])], [⟨false, .ints .i64 2 g2⟩, ⟨false, .ints .u8 520 g3⟩, ⟨true, .ints .u8 8 v0⟩, ⟨true, .ints .u8 8 (fun _ => 0)⟩, ⟨true, .ints .u8 8 o7⟩]⟩

theorem impl_Algebra_power.b0_gen {ρ : Type} (N : Nat) (K : AV → Heap → Option ρ) (L0 : St → Option ρ) (kv : XE → St → Option ρ) (v0 : Nat → Int) (k1 : Int) (g2 : Nat → Int) (g3 : Nat → Int) (x4 : Int) (g5 : Nat → Int) :
    xcode (E63 N) ents impl_Algebra_power.kp 2 N (cL (cK (cB (cA (cB (cB impl_Algebra_power.bd)))))) 0 (impl_Algebra_power.st0 v0 k1 g2 g3 x4 g5) (roundK impl_Algebra_power.kp 2 0 L0 (mixK (impl_Algebra_power.fin N K g2 g3 .ret) kv)) = (impl_Algebra_power.b0 N (fun d0 => K (.agg [⟨.u8, 8, d0⟩]) [⟨false, .ints .i64 2 g2⟩, ⟨false, .ints .u8 520 g3⟩]) (fun x4 g5 => L0 (impl_Algebra_power.st0 v0 k1 g2 g3 x4 g5)) (fun o7 => kv (.exit 0) (impl_Algebra_power.sx0_0 v0 g2 g3 o7)) v0 k1 g2 g3 x4 g5) := by kernel_rfl

theorem impl_Algebra_power.b0_eq {ρ : Type} (N : Nat) (K : AV → Heap → Option ρ) (L0 : St → Option ρ) (v0 : Nat → Int) (k1 : Int) (g2 : Nat → Int) (g3 : Nat → Int) (x4 : Int) (g5 : Nat → Int) :
    xcode (E63 N) ents impl_Algebra_power.kp 2 N (cL (cK (cB (cA (cB (cB impl_Algebra_power.bd)))))) 0 (impl_Algebra_power.st0 v0 k1 g2 g3 x4 g5) (roundK impl_Algebra_power.kp 2 0 L0 (impl_Algebra_power.k0 N K g2 g3)) = (impl_Algebra_power.b0 N (fun d0 => K (.agg [⟨.u8, 8, d0⟩]) [⟨false, .ints .i64 2 g2⟩, ⟨false, .ints .u8 520 g3⟩]) (fun x4 g5 => L0 (impl_Algebra_power.st0 v0 k1 g2 g3 x4 g5)) (fun o7 => (impl_Algebra_power.k0 N K g2 g3) (.exit 0) (impl_Algebra_power.sx0_0 v0 g2 g3 o7)) v0 k1 g2 g3 x4 g5) := by
  have h := impl_Algebra_power.b0_gen N K L0 (impl_Algebra_power.k0 N K g2 g3) v0 k1 g2 g3 x4 g5
  rw [impl_Algebra_power.k0_mix] at h
  exact h

theorem impl_Algebra_power.a0_0_eq {ρ : Type} (N : Nat) (K : AV → Heap → Option ρ) (v0 : Nat → Int) (g2 : Nat → Int) (g3 : Nat → Int) (o7 : Nat → Int) :
    (impl_Algebra_power.k0 N K g2 g3) (.exit 0) (impl_Algebra_power.sx0_0 v0 g2 g3 o7) = (impl_Algebra_power.a0_0 N (fun d0 => K (.agg [⟨.u8, 8, d0⟩]) [⟨false, .ints .i64 2 g2⟩, ⟨false, .ints .u8 520 g3⟩]) o7) := by kernel_rfl

theorem impl_Algebra_power.l0_eq {ρ : Type} (N : Nat) (K : AV → Heap → Option ρ) (v0 : Nat → Int) (k1 : Int) (g2 : Nat → Int) (g3 : Nat → Int) :
    ∀ (m : Nat) (x4 : Int) (g5 : Nat → Int), xloop (xcode (E63 N) ents impl_Algebra_power.kp 2 N (cL (cK (cB (cA (cB (cB impl_Algebra_power.bd)))))) 0) impl_Algebra_power.kp 2 0 m (impl_Algebra_power.st0 v0 k1 g2 g3 x4 g5) (impl_Algebra_power.k0 N K g2 g3) = (impl_Algebra_power.l0 N (fun d0 => K (.agg [⟨.u8, 8, d0⟩]) [⟨false, .ints .i64 2 g2⟩, ⟨false, .ints .u8 520 g3⟩]) v0 k1 g2 g3 (fun o7 => (impl_Algebra_power.k0 N K g2 g3) (.exit 0) (impl_Algebra_power.sx0_0 v0 g2 g3 o7)) m x4 g5) := by
  intro m
  induction m with
  | zero => intros; rfl
  | succ m ih =>
    intro x4 g5
    refine (impl_Algebra_power.b0_eq N K (fun s => xloop (xcode (E63 N) ents impl_Algebra_power.kp 2 N (cL (cK (cB (cA (cB (cB impl_Algebra_power.bd)))))) 0) impl_Algebra_power.kp 2 0 m s (impl_Algebra_power.k0 N K g2 g3)) v0 k1 g2 g3 x4 g5).trans ?_
    simp only [ih]
    kernel_rfl

theorem impl_Algebra_power.s_eq {ρ : Type} (N : Nat) (K : AV → Heap → Option ρ) (v0 : Nat → Int) (k1 : Int) (g2 : Nat → Int) (g3 : Nat → Int) :
    xbody (E63 N) ents impl_Algebra_power.kp N Go.Proofs.Try.f69 impl_Algebra_power.bd [.sptr [(0, 2), (1, 520)], .agg [⟨.u8, 8, v0⟩], .int .i64 (k1)] [⟨false, .ints .i64 2 g2⟩, ⟨false, .ints .u8 520 g3⟩] K = (impl_Algebra_power.s N (fun d0 => K (.agg [⟨.u8, 8, d0⟩]) [⟨false, .ints .i64 2 g2⟩, ⟨false, .ints .u8 520 g3⟩]) (fun x4 g5 => xloop (xcode (E63 N) ents impl_Algebra_power.kp 2 N (cL (cK (cB (cA (cB (cB impl_Algebra_power.bd)))))) 0) impl_Algebra_power.kp 2 0 N (impl_Algebra_power.st0 v0 k1 g2 g3 x4 g5) (impl_Algebra_power.k0 N K g2 g3)) g3) := by kernel_rfl

theorem impl_Algebra_power.eq {ρ : Type} (N : Nat) (K : AV → Heap → Option ρ) (v0 : Nat → Int) (k1 : Int) (g2 : Nat → Int) (g3 : Nat → Int) :
    xbody (E63 N) ents impl_Algebra_power.kp N Go.Proofs.Try.f69 impl_Algebra_power.bd [.sptr [(0, 2), (1, 520)], .agg [⟨.u8, 8, v0⟩], .int .i64 (k1)] [⟨false, .ints .i64 2 g2⟩, ⟨false, .ints .u8 520 g3⟩] K = (impl_Algebra_power N (fun d0 => K (.agg [⟨.u8, 8, d0⟩]) [⟨false, .ints .i64 2 g2⟩, ⟨false, .ints .u8 520 g3⟩]) v0 k1 g2 g3) := by
  refine (impl_Algebra_power.s_eq N K v0 k1 g2 g3).trans ?_
  simp only [impl_Algebra_power.l0_eq, impl_Algebra_power.a0_0_eq]
  kernel_rfl

noncomputable def impl_Algebra_power.en (N : Nat) (ρ : Type) : List AV → Heap → (AV → Heap → Option ρ) → Option ρ
  | [.sptr [(0, 2), (1, 520)], .agg [⟨.u8, 8, v0⟩], .int .i64 (k1)], [⟨false, .ints .i64 2 g2⟩, ⟨false, .ints .u8 520 g3⟩], K => (impl_Algebra_power N (fun d0 => K (.agg [⟨.u8, 8, d0⟩]) [⟨false, .ints .i64 2 g2⟩, ⟨false, .ints .u8 520 g3⟩]) v0 k1 g2 g3)
  | _, _, _ => none

theorem impl_Algebra_power.en_ok (N : Nat) (hE : EnvOk (E63 N) ents) (ρ : Type) (args : List AV) (sh : Heap) (K : AV → Heap → Option ρ) (r : ρ) (h : impl_Algebra_power.en N ρ args sh K = some r) : ∃ v sh', K v sh' = some r ∧ FnOk (E63 N).P 69 args sh v sh' := by
  unfold impl_Algebra_power.en at h
  split at h
  · exact fn_ok hE (kp := impl_Algebra_power.kp) (N := N) Go.Proofs.Try.func69 (c := impl_Algebra_power.bd) (by kernel_rfl) ((impl_Algebra_power.eq N _ _ _ _ _).trans h)
  · cases h

noncomputable def E64 (N : Nat) : Env := (E63 N).add 69 (impl_Algebra_power.en N)

theorem E64_ok (N : Nat) : EnvOk (E64 N) ents := Env.add_ok (E63_ok N) (impl_Algebra_power.en_ok N (E63_ok N))

noncomputable def impl_PowerOf.kp : Keeps := ⟨[], []⟩

noncomputable def impl_PowerOf.bd : Code := bodyOf Go.Proofs.Try.f31

noncomputable def impl_PowerOf.fin {ρ : Type} (N : Nat) (K : AV → Heap → Option ρ) : XE → St → Option ρ := finK (E64 N) Go.Proofs.Try.f31 [] K

theorem impl_PowerOf.eq {ρ : Type} (N : Nat) (K : AV → Heap → Option ρ) (a0 : Nat → Int) (a1 : Nat → Int) (v2 : Nat → Int) (k3 : Int) :
    xbody (E64 N) ents impl_PowerOf.kp N Go.Proofs.Try.f31 impl_PowerOf.bd [.agg [⟨.i64, 2, a0⟩, ⟨.u8, 520, a1⟩], .agg [⟨.u8, 8, v2⟩], .int .i64 (k3)] [] K = (impl_PowerOf N (fun d0 d1 => K (.tup [.agg [⟨.u8, 8, d0⟩], .int .i64 (d1)]) []) a0 a1 v2 k3) := by kernel_rfl

noncomputable def impl_PowerOf.en (N : Nat) (ρ : Type) : List AV → Heap → (AV → Heap → Option ρ) → Option ρ
  | [.agg [⟨.i64, 2, a0⟩, ⟨.u8, 520, a1⟩], .agg [⟨.u8, 8, v2⟩], .int .i64 (k3)], [], K => (impl_PowerOf N (fun d0 d1 => K (.tup [.agg [⟨.u8, 8, d0⟩], .int .i64 (d1)]) []) a0 a1 v2 k3)
  | _, _, _ => none

theorem impl_PowerOf.en_ok (N : Nat) (hE : EnvOk (E64 N) ents) (ρ : Type) (args : List AV) (sh : Heap) (K : AV → Heap → Option ρ) (r : ρ) (h : impl_PowerOf.en N ρ args sh K = some r) : ∃ v sh', K v sh' = some r ∧ FnOk (E64 N).P 31 args sh v sh' := by
  unfold impl_PowerOf.en at h
  split at h
  · exact fn_ok hE (kp := impl_PowerOf.kp) (N := N) Go.Proofs.Try.func31 (c := impl_PowerOf.bd) (by kernel_rfl) ((impl_PowerOf.eq N _ _ _ _ _).trans h)
  · cases h

noncomputable def E65 (N : Nat) : Env := (E64 N).add 31 (impl_PowerOf.en N)

theorem E65_ok (N : Nat) : EnvOk (E65 N) ents := Env.add_ok (E64_ok N) (impl_PowerOf.en_ok N (E64_ok N))

noncomputable def laws_FnExactPowerOf.kp : Keeps := ⟨[], []⟩

noncomputable def laws_FnExactPowerOf.bd : Code := bodyOf Go.Proofs.Try.f8

noncomputable def laws_FnExactPowerOf.fin {ρ : Type} (N : Nat) (K : AV → Heap → Option ρ) : XE → St → Option ρ := finK (E65 N) Go.Proofs.Try.f8 [] K

theorem laws_FnExactPowerOf.eq {ρ : Type} (N : Nat) (K : AV → Heap → Option ρ) (aA0 : Nat → Int) (aA1 : Nat → Int) (aV2 : Nat → Int) (aK3 : Int) :
    xbody (E65 N) ents laws_FnExactPowerOf.kp N Go.Proofs.Try.f8 laws_FnExactPowerOf.bd [.agg [⟨.i64, 2, aA0⟩, ⟨.u8, 520, aA1⟩], .agg [⟨.u8, 8, aV2⟩], .int .i64 (aK3)] [] K = (laws_FnExactPowerOf N (fun d0 => K (.bool (d0)) []) aA0 aA1 aV2 aK3) := by kernel_rfl

noncomputable def laws_FnExactPowerOf.en (N : Nat) (ρ : Type) : List AV → Heap → (AV → Heap → Option ρ) → Option ρ
  | [.agg [⟨.i64, 2, aA0⟩, ⟨.u8, 520, aA1⟩], .agg [⟨.u8, 8, aV2⟩], .int .i64 (aK3)], [], K => (laws_FnExactPowerOf N (fun d0 => K (.bool (d0)) []) aA0 aA1 aV2 aK3)
  | _, _, _ => none

theorem laws_FnExactPowerOf.en_ok (N : Nat) (hE : EnvOk (E65 N) ents) (ρ : Type) (args : List AV) (sh : Heap) (K : AV → Heap → Option ρ) (r : ρ) (h : laws_FnExactPowerOf.en N ρ args sh K = some r) : ∃ v sh', K v sh' = some r ∧ FnOk (E65 N).P 8 args sh v sh' := by
  unfold laws_FnExactPowerOf.en at h
  split at h
  · exact fn_ok hE (kp := laws_FnExactPowerOf.kp) (N := N) Go.Proofs.Try.func8 (c := laws_FnExactPowerOf.bd) (by kernel_rfl) ((laws_FnExactPowerOf.eq N _ _ _ _ _).trans h)
  · cases h

noncomputable def E66 (N : Nat) : Env := (E65 N).add 8 (laws_FnExactPowerOf.en N)

theorem E66_ok (N : Nat) : EnvOk (E66 N) ents := Env.add_ok (E65_ok N) (laws_FnExactPowerOf.en_ok N (E65_ok N))

noncomputable def spec_LeftTable.kp : Keeps := ⟨[], []⟩

noncomputable def spec_LeftTable.bd : Code := bodyOf Go.Proofs.Try.f32

noncomputable def spec_LeftTable.fin {ρ : Type} (N : Nat) (K : AV → Heap → Option ρ) : XE → St → Option ρ := finK (E66 N) Go.Proofs.Try.f32 [] K

theorem spec_LeftTable.eq {ρ : Type} (N : Nat) (K : AV → Heap → Option ρ) (a0 : Nat → Int) (a1 : Nat → Int) (v2 : Nat → Int) :
    xbody (E66 N) ents spec_LeftTable.kp N Go.Proofs.Try.f32 spec_LeftTable.bd [.agg [⟨.i64, 2, a0⟩, ⟨.u8, 520, a1⟩], .agg [⟨.u8, 8, v2⟩]] [] K = (spec_LeftTable N (fun d0 d1 => K (.tup [.agg [⟨.u8, 64, d0⟩], .int .i64 (d1)]) []) a0 a1 v2) := by kernel_rfl

noncomputable def spec_LeftTable.en (N : Nat) (ρ : Type) : List AV → Heap → (AV → Heap → Option ρ) → Option ρ
  | [.agg [⟨.i64, 2, a0⟩, ⟨.u8, 520, a1⟩], .agg [⟨.u8, 8, v2⟩]], [], K => (spec_LeftTable N (fun d0 d1 => K (.tup [.agg [⟨.u8, 64, d0⟩], .int .i64 (d1)]) []) a0 a1 v2)
  | _, _, _ => none

theorem spec_LeftTable.en_ok (N : Nat) (hE : EnvOk (E66 N) ents) (ρ : Type) (args : List AV) (sh : Heap) (K : AV → Heap → Option ρ) (r : ρ) (h : spec_LeftTable.en N ρ args sh K = some r) : ∃ v sh', K v sh' = some r ∧ FnOk (E66 N).P 32 args sh v sh' := by
  unfold spec_LeftTable.en at h
  split at h
  · exact fn_ok hE (kp := spec_LeftTable.kp) (N := N) Go.Proofs.Try.func32 (c := spec_LeftTable.bd) (by kernel_rfl) ((spec_LeftTable.eq N _ _ _ _).trans h)
  · cases h

noncomputable def E67 (N : Nat) : Env := (E66 N).add 32 (spec_LeftTable.en N)

theorem E67_ok (N : Nat) : EnvOk (E67 N) ents := Env.add_ok (E66_ok N) (spec_LeftTable.en_ok N (E66_ok N))

noncomputable def impl_LeftTable.kp : Keeps := ⟨[], []⟩

noncomputable def impl_LeftTable.bd : Code := bodyOf Go.Proofs.Try.f33

noncomputable def impl_LeftTable.fin {ρ : Type} (N : Nat) (K : AV → Heap → Option ρ) : XE → St → Option ρ := finK (E67 N) Go.Proofs.Try.f33 [] K

theorem impl_LeftTable.eq {ρ : Type} (N : Nat) (K : AV → Heap → Option ρ) (a0 : Nat → Int) (a1 : Nat → Int) (v2 : Nat → Int) :
    xbody (E67 N) ents impl_LeftTable.kp N Go.Proofs.Try.f33 impl_LeftTable.bd [.agg [⟨.i64, 2, a0⟩, ⟨.u8, 520, a1⟩], .agg [⟨.u8, 8, v2⟩]] [] K = (impl_LeftTable N (fun d0 d1 => K (.tup [.agg [⟨.u8, 64, d0⟩], .int .i64 (d1)]) []) a0 a1 v2) := by kernel_rfl

noncomputable def impl_LeftTable.en (N : Nat) (ρ : Type) : List AV → Heap → (AV → Heap → Option ρ) → Option ρ
  | [.agg [⟨.i64, 2, a0⟩, ⟨.u8, 520, a1⟩], .agg [⟨.u8, 8, v2⟩]], [], K => (impl_LeftTable N (fun d0 d1 => K (.tup [.agg [⟨.u8, 64, d0⟩], .int .i64 (d1)]) []) a0 a1 v2)
  | _, _, _ => none

theorem impl_LeftTable.en_ok (N : Nat) (hE : EnvOk (E67 N) ents) (ρ : Type) (args : List AV) (sh : Heap) (K : AV → Heap → Option ρ) (r : ρ) (h : impl_LeftTable.en N ρ args sh K = some r) : ∃ v sh', K v sh' = some r ∧ FnOk (E67 N).P 33 args sh v sh' := by
  unfold impl_LeftTable.en at h
  split at h
  · exact fn_ok hE (kp := impl_LeftTable.kp) (N := N) Go.Proofs.Try.func33 (c := impl_LeftTable.bd) (by kernel_rfl) ((impl_LeftTable.eq N _ _ _ _).trans h)
  · cases h

noncomputable def E68 (N : Nat) : Env := (E67 N).add 33 (impl_LeftTable.en N)

theorem E68_ok (N : Nat) : EnvOk (E68 N) ents := Env.add_ok (E67_ok N) (impl_LeftTable.en_ok N (E67_ok N))

noncomputable def laws_eqLinear.kp : Keeps := ⟨[(0, [2, 3, 5], 2)], [(0, [], 2)]⟩

noncomputable def laws_eqLinear.bd : Code := bodyOf Go.Proofs.Try.f34

noncomputable def laws_eqLinear.fin {ρ : Type} (N : Nat) (K : AV → Heap → Option ρ) : XE → St → Option ρ := finK (E68 N) Go.Proofs.Try.f34 [] K

noncomputable def laws_eqLinear.k0 {ρ : Type} (N : Nat) (K : AV → Heap → Option ρ) : XE → St → Option ρ := (blockK laws_eqLinear.kp 0 0 (seqK (xcode (E68 N) ents laws_eqLinear.kp 0 N (cB (cB laws_eqLinear.bd)) 0) (laws_eqLinear.fin N K)))

theorem laws_eqLinear.k0_mix {ρ : Type} (N : Nat) (K : AV → Heap → Option ρ) : mixK (laws_eqLinear.fin N K .ret) (laws_eqLinear.k0 N K) = (laws_eqLinear.k0 N K) := by
  funext e s; cases e <;> rfl

noncomputable def laws_eqLinear.st0 (a0 : Nat → Int) (b1 : Nat → Int) (i2 : Int) : St := ⟨sl 18 [(2, .sptr [(0, 64)]), (3, .sptr [(1, 64)]), (5, .int .i64 (i2))], [⟨true, .ints .u8 64 a0⟩, ⟨true, .ints .u8 64 b1⟩]⟩

noncomputable def laws_eqLinear.sx0_0 (a0 : Nat → Int) (b1 : Nat → Int) : St := ⟨sl 18 [], [⟨true, .ints .u8 64 a0⟩, ⟨true, .ints .u8 64 b1⟩]⟩

theorem laws_eqLinear.b0_gen {ρ : Type} (N : Nat) (K : AV → Heap → Option ρ) (L0 : St → Option ρ) (kv : XE → St → Option ρ) (a0 : Nat → Int) (b1 : Nat → Int) (i2 : Int) :
    xcode (E68 N) ents laws_eqLinear.kp 0 N (cL (cK (cB (cA (cB laws_eqLinear.bd))))) 0 (laws_eqLinear.st0 a0 b1 i2) (roundK laws_eqLinear.kp 0 0 L0 (mixK (laws_eqLinear.fin N K .ret) kv)) = (laws_eqLinear.b0 N (fun d0 => K (.bool (d0)) []) (fun i2 => L0 (laws_eqLinear.st0 a0 b1 i2)) (kv (.exit 0) (laws_eqLinear.sx0_0 a0 b1)) a0 b1 i2) := by kernel_rfl

theorem laws_eqLinear.b0_eq {ρ : Type} (N : Nat) (K : AV → Heap → Option ρ) (L0 : St → Option ρ) (a0 : Nat → Int) (b1 : Nat → Int) (i2 : Int) :
    xcode (E68 N) ents laws_eqLinear.kp 0 N (cL (cK (cB (cA (cB laws_eqLinear.bd))))) 0 (laws_eqLinear.st0 a0 b1 i2) (roundK laws_eqLinear.kp 0 0 L0 (laws_eqLinear.k0 N K)) = (laws_eqLinear.b0 N (fun d0 => K (.bool (d0)) []) (fun i2 => L0 (laws_eqLinear.st0 a0 b1 i2)) ((laws_eqLinear.k0 N K) (.exit 0) (laws_eqLinear.sx0_0 a0 b1)) a0 b1 i2) := by
  have h := laws_eqLinear.b0_gen N K L0 (laws_eqLinear.k0 N K) a0 b1 i2
  rw [laws_eqLinear.k0_mix] at h
  exact h

theorem laws_eqLinear.a0_0_eq {ρ : Type} (N : Nat) (K : AV → Heap → Option ρ) (a0 : Nat → Int) (b1 : Nat → Int) :
    (laws_eqLinear.k0 N K) (.exit 0) (laws_eqLinear.sx0_0 a0 b1) = (laws_eqLinear.a0_0 N (fun d0 => K (.bool (d0)) [])) := by kernel_rfl

theorem laws_eqLinear.l0_eq {ρ : Type} (N : Nat) (K : AV → Heap → Option ρ) (a0 : Nat → Int) (b1 : Nat → Int) :
    ∀ (m : Nat) (i2 : Int), xloop (xcode (E68 N) ents laws_eqLinear.kp 0 N (cL (cK (cB (cA (cB laws_eqLinear.bd))))) 0) laws_eqLinear.kp 0 0 m (laws_eqLinear.st0 a0 b1 i2) (laws_eqLinear.k0 N K) = (laws_eqLinear.l0 N (fun d0 => K (.bool (d0)) []) a0 b1 ((laws_eqLinear.k0 N K) (.exit 0) (laws_eqLinear.sx0_0 a0 b1)) m i2) := by
  intro m
  induction m with
  | zero => intros; rfl
  | succ m ih =>
    intro i2
    refine (laws_eqLinear.b0_eq N K (fun s => xloop (xcode (E68 N) ents laws_eqLinear.kp 0 N (cL (cK (cB (cA (cB laws_eqLinear.bd))))) 0) laws_eqLinear.kp 0 0 m s (laws_eqLinear.k0 N K)) a0 b1 i2).trans ?_
    simp only [ih]
    kernel_rfl

theorem laws_eqLinear.s_eq {ρ : Type} (N : Nat) (K : AV → Heap → Option ρ) (a0 : Nat → Int) (b1 : Nat → Int) :
    xbody (E68 N) ents laws_eqLinear.kp N Go.Proofs.Try.f34 laws_eqLinear.bd [.agg [⟨.u8, 64, a0⟩], .agg [⟨.u8, 64, b1⟩]] [] K = (laws_eqLinear.s N (fun d0 => K (.bool (d0)) []) (fun i2 => xloop (xcode (E68 N) ents laws_eqLinear.kp 0 N (cL (cK (cB (cA (cB laws_eqLinear.bd))))) 0) laws_eqLinear.kp 0 0 N (laws_eqLinear.st0 a0 b1 i2) (laws_eqLinear.k0 N K))) := by kernel_rfl

theorem laws_eqLinear.eq {ρ : Type} (N : Nat) (K : AV → Heap → Option ρ) (a0 : Nat → Int) (b1 : Nat → Int) :
    xbody (E68 N) ents laws_eqLinear.kp N Go.Proofs.Try.f34 laws_eqLinear.bd [.agg [⟨.u8, 64, a0⟩], .agg [⟨.u8, 64, b1⟩]] [] K = (laws_eqLinear N (fun d0 => K (.bool (d0)) []) a0 b1) := by
  refine (laws_eqLinear.s_eq N K a0 b1).trans ?_
  simp only [laws_eqLinear.l0_eq, laws_eqLinear.a0_0_eq]
  kernel_rfl

noncomputable def laws_eqLinear.en (N : Nat) (ρ : Type) : List AV → Heap → (AV → Heap → Option ρ) → Option ρ
  | [.agg [⟨.u8, 64, a0⟩], .agg [⟨.u8, 64, b1⟩]], [], K => (laws_eqLinear N (fun d0 => K (.bool (d0)) []) a0 b1)
  | _, _, _ => none

theorem laws_eqLinear.en_ok (N : Nat) (hE : EnvOk (E68 N) ents) (ρ : Type) (args : List AV) (sh : Heap) (K : AV → Heap → Option ρ) (r : ρ) (h : laws_eqLinear.en N ρ args sh K = some r) : ∃ v sh', K v sh' = some r ∧ FnOk (E68 N).P 34 args sh v sh' := by
  unfold laws_eqLinear.en at h
  split at h
  · exact fn_ok hE (kp := laws_eqLinear.kp) (N := N) Go.Proofs.Try.func34 (c := laws_eqLinear.bd) (by kernel_rfl) ((laws_eqLinear.eq N _ _ _).trans h)
  · cases h

noncomputable def E69 (N : Nat) : Env := (E68 N).add 34 (laws_eqLinear.en N)

theorem E69_ok (N : Nat) : EnvOk (E69 N) ents := Env.add_ok (E68_ok N) (laws_eqLinear.en_ok N (E68_ok N))

noncomputable def laws_FnExactLeftTable.kp : Keeps := ⟨[], []⟩

noncomputable def laws_FnExactLeftTable.bd : Code := bodyOf Go.Proofs.Try.f9

noncomputable def laws_FnExactLeftTable.fin {ρ : Type} (N : Nat) (K : AV → Heap → Option ρ) : XE → St → Option ρ := finK (E69 N) Go.Proofs.Try.f9 [] K

theorem laws_FnExactLeftTable.eq {ρ : Type} (N : Nat) (K : AV → Heap → Option ρ) (aA0 : Nat → Int) (aA1 : Nat → Int) (aV2 : Nat → Int) :
    xbody (E69 N) ents laws_FnExactLeftTable.kp N Go.Proofs.Try.f9 laws_FnExactLeftTable.bd [.agg [⟨.i64, 2, aA0⟩, ⟨.u8, 520, aA1⟩], .agg [⟨.u8, 8, aV2⟩]] [] K = (laws_FnExactLeftTable N (fun d0 => K (.bool (d0)) []) aA0 aA1 aV2) := by kernel_rfl

noncomputable def laws_FnExactLeftTable.en (N : Nat) (ρ : Type) : List AV → Heap → (AV → Heap → Option ρ) → Option ρ
  | [.agg [⟨.i64, 2, aA0⟩, ⟨.u8, 520, aA1⟩], .agg [⟨.u8, 8, aV2⟩]], [], K => (laws_FnExactLeftTable N (fun d0 => K (.bool (d0)) []) aA0 aA1 aV2)
  | _, _, _ => none

theorem laws_FnExactLeftTable.en_ok (N : Nat) (hE : EnvOk (E69 N) ents) (ρ : Type) (args : List AV) (sh : Heap) (K : AV → Heap → Option ρ) (r : ρ) (h : laws_FnExactLeftTable.en N ρ args sh K = some r) : ∃ v sh', K v sh' = some r ∧ FnOk (E69 N).P 9 args sh v sh' := by
  unfold laws_FnExactLeftTable.en at h
  split at h
  · exact fn_ok hE (kp := laws_FnExactLeftTable.kp) (N := N) Go.Proofs.Try.func9 (c := laws_FnExactLeftTable.bd) (by kernel_rfl) ((laws_FnExactLeftTable.eq N _ _ _ _).trans h)
  · cases h

noncomputable def E70 (N : Nat) : Env := (E69 N).add 9 (laws_FnExactLeftTable.en N)

theorem E70_ok (N : Nat) : EnvOk (E70 N) ents := Env.add_ok (E69_ok N) (laws_FnExactLeftTable.en_ok N (E69_ok N))

noncomputable def spec_l01Opposite.kp : Keeps := ⟨[(0, [0, 3, 4, 5, 6], 3), (2, [0, 3, 4, 5, 6, 7], 3)], [(0, [4, 5], 3), (2, [0, 3, 4, 5, 6], 3)]⟩

noncomputable def spec_l01Opposite.bd : Code := bodyOf Go.Proofs.Try.f70

noncomputable def spec_l01Opposite.fin {ρ : Type} (N : Nat) (K : AV → Heap → Option ρ) : XE → St → Option ρ := finK (E70 N) Go.Proofs.Try.f70 [] K

noncomputable def spec_l01Opposite.k0 {ρ : Type} (N : Nat) (K : AV → Heap → Option ρ) : XE → St → Option ρ := (blockK spec_l01Opposite.kp 0 0 (seqK (xcode (E70 N) ents spec_l01Opposite.kp 0 N (cB (cB (cB spec_l01Opposite.bd))) 0) (spec_l01Opposite.fin N K)))

theorem spec_l01Opposite.k0_mix {ρ : Type} (N : Nat) (K : AV → Heap → Option ρ) : mixK (spec_l01Opposite.fin N K .ret) (spec_l01Opposite.k0 N K) = (spec_l01Opposite.k0 N K) := by
  funext e s; cases e <;> rfl

noncomputable def spec_l01Opposite.st0 (n0 : Int) (t1 : Nat → Int) (i2 : Int) (g3 : Nat → Int) : St := ⟨sl 29 [(0, .int .i64 (n0)), (3, .sptr [(0, 512)]), (4, .sptr [(1, 512)]), (5, .sptr [(2, 512)]), (6, .int .i64 (i2))], [⟨true, .ints .u8 512 t1⟩, ⟨true, .ints .u8 512 (fun _ => 0)⟩, ⟨true, .ints .u8 512 g3⟩]⟩

noncomputable def spec_l01Opposite.sx0_0 (t1 : Nat → Int) (o7 : Nat → Int) : St := ⟨sl 29 [(4, .sptr [(1, 512)]), (5, .sptr [(2, 512)])], [⟨true, .ints .u8 512 t1⟩, ⟨true, .ints .u8 512 (fun _ => 0)⟩, ⟨true, .ints .u8 512 o7⟩]⟩

noncomputable def spec_l01Opposite.k1g {ρ : Type} (N : Nat) (L0 : St → Option ρ) (kv : XE → St → Option ρ) : XE → St → Option ρ := (blockK spec_l01Opposite.kp 0 2 (blockK spec_l01Opposite.kp 0 1 (seqK (xcode (E70 N) ents spec_l01Opposite.kp 0 N (cB (cB (cL (cK (cB (cA (cB (cB spec_l01Opposite.bd)))))))) 0) (roundK spec_l01Opposite.kp 0 0 L0 kv))))

theorem spec_l01Opposite.k1_mix {ρ : Type} (N : Nat) (K : AV → Heap → Option ρ) (L0 : St → Option ρ) : mixK (spec_l01Opposite.fin N K .ret) (spec_l01Opposite.k1g N L0 (spec_l01Opposite.k0 N K)) = (spec_l01Opposite.k1g N L0 (spec_l01Opposite.k0 N K)) := by
  funext e s; cases e <;> rfl

noncomputable def spec_l01Opposite.st1 (n0 : Int) (t1 : Nat → Int) (i2 : Int) (k4 : Int) (g5 : Nat → Int) : St := ⟨sl 29 [(0, .int .i64 (n0)), (3, .sptr [(0, 512)]), (4, .sptr [(1, 512)]), (5, .sptr [(2, 512)]), (6, .int .i64 (i2)), (7, .int .i64 (k4))], [⟨true, .ints .u8 512 t1⟩, ⟨true, .ints .u8 512 (fun _ => 0)⟩, ⟨true, .ints .u8 512 g5⟩]⟩

noncomputable def spec_l01Opposite.sx1_0 (n0 : Int) (t1 : Nat → Int) (i2 : Int) (o6 : Nat → Int) : St := ⟨sl 29 [(0, .int .i64 (n0)), (3, .sptr [(0, 512)]), (4, .sptr [(1, 512)]), (5, .sptr [(2, 512)]), (6, .int .i64 (i2))], [⟨true, .ints .u8 512 t1⟩, ⟨true, .ints .u8 512 (fun _ => 0)⟩, ⟨true, .ints .u8 512 o6⟩]⟩

theorem spec_l01Opposite.b1_gen {ρ : Type} (N : Nat) (K : AV → Heap → Option ρ) (L1 : St → Option ρ) (kv : XE → St → Option ρ) (n0 : Int) (t1 : Nat → Int) (i2 : Int) (k4 : Int) (g5 : Nat → Int) :
    xcode (E70 N) ents spec_l01Opposite.kp 0 N (cL (cK (cB (cK (cA (cB (cL (cK (cB (cA (cB (cB spec_l01Opposite.bd)))))))))))) 2 (spec_l01Opposite.st1 n0 t1 i2 k4 g5) (roundK spec_l01Opposite.kp 0 2 L1 (mixK (spec_l01Opposite.fin N K .ret) kv)) = (spec_l01Opposite.b1 N (fun d0 => K (.agg [⟨.u8, 512, d0⟩]) []) (fun k4 g5 => L1 (spec_l01Opposite.st1 n0 t1 i2 k4 g5)) (fun o6 => kv (.exit 2) (spec_l01Opposite.sx1_0 n0 t1 i2 o6)) n0 t1 i2 k4 g5) := by kernel_rfl

theorem spec_l01Opposite.b1_eq {ρ : Type} (N : Nat) (K : AV → Heap → Option ρ) (L0 : St → Option ρ) (L1 : St → Option ρ) (n0 : Int) (t1 : Nat → Int) (i2 : Int) (k4 : Int) (g5 : Nat → Int) :
    xcode (E70 N) ents spec_l01Opposite.kp 0 N (cL (cK (cB (cK (cA (cB (cL (cK (cB (cA (cB (cB spec_l01Opposite.bd)))))))))))) 2 (spec_l01Opposite.st1 n0 t1 i2 k4 g5) (roundK spec_l01Opposite.kp 0 2 L1 (spec_l01Opposite.k1g N L0 (spec_l01Opposite.k0 N K))) = (spec_l01Opposite.b1 N (fun d0 => K (.agg [⟨.u8, 512, d0⟩]) []) (fun k4 g5 => L1 (spec_l01Opposite.st1 n0 t1 i2 k4 g5)) (fun o6 => (spec_l01Opposite.k1g N L0 (spec_l01Opposite.k0 N K)) (.exit 2) (spec_l01Opposite.sx1_0 n0 t1 i2 o6)) n0 t1 i2 k4 g5) := by
  have h := spec_l01Opposite.b1_gen N K L1 (spec_l01Opposite.k1g N L0 (spec_l01Opposite.k0 N K)) n0 t1 i2 k4 g5
  rw [spec_l01Opposite.k1_mix] at h
  exact h

theorem spec_l01Opposite.a1_0_gen {ρ : Type} (N : Nat) (K : AV → Heap → Option ρ) (L0 : St → Option ρ) (kv : XE → St → Option ρ) (n0 : Int) (t1 : Nat → Int) (i2 : Int) (o6 : Nat → Int) :
    (spec_l01Opposite.k1g N L0 (mixK (spec_l01Opposite.fin N K .ret) kv)) (.exit 2) (spec_l01Opposite.sx1_0 n0 t1 i2 o6) = (spec_l01Opposite.a1_0 N (fun d0 => K (.agg [⟨.u8, 512, d0⟩]) []) (fun i2 g3 => L0 (spec_l01Opposite.st0 n0 t1 i2 g3)) (fun o7 => kv (.exit 0) (spec_l01Opposite.sx0_0 t1 o7)) i2 o6) := by kernel_rfl

theorem spec_l01Opposite.a1_0_eq {ρ : Type} (N : Nat) (K : AV → Heap → Option ρ) (L0 : St → Option ρ) (n0 : Int) (t1 : Nat → Int) (i2 : Int) (o6 : Nat → Int) :
    (spec_l01Opposite.k1g N L0 (spec_l01Opposite.k0 N K)) (.exit 2) (spec_l01Opposite.sx1_0 n0 t1 i2 o6) = (spec_l01Opposite.a1_0 N (fun d0 => K (.agg [⟨.u8, 512, d0⟩]) []) (fun i2 g3 => L0 (spec_l01Opposite.st0 n0 t1 i2 g3)) (fun o7 => (spec_l01Opposite.k0 N K) (.exit 0) (spec_l01Opposite.sx0_0 t1 o7)) i2 o6) := by
  have h := spec_l01Opposite.a1_0_gen N K L0 (spec_l01Opposite.k0 N K) n0 t1 i2 o6
  rw [spec_l01Opposite.k0_mix] at h
  exact h

theorem spec_l01Opposite.b0_gen {ρ : Type} (N : Nat) (K : AV → Heap → Option ρ) (L0 : St → Option ρ) (kv : XE → St → Option ρ) (n0 : Int) (t1 : Nat → Int) (i2 : Int) (g3 : Nat → Int) :
    xcode (E70 N) ents spec_l01Opposite.kp 0 N (cL (cK (cB (cA (cB (cB spec_l01Opposite.bd)))))) 0 (spec_l01Opposite.st0 n0 t1 i2 g3) (roundK spec_l01Opposite.kp 0 0 L0 (mixK (spec_l01Opposite.fin N K .ret) kv)) = (spec_l01Opposite.b0 N (fun d0 => K (.agg [⟨.u8, 512, d0⟩]) []) (fun k4 g5 => xloop (xcode (E70 N) ents spec_l01Opposite.kp 0 N (cL (cK (cB (cK (cA (cB (cL (cK (cB (cA (cB (cB spec_l01Opposite.bd)))))))))))) 2) spec_l01Opposite.kp 0 2 N (spec_l01Opposite.st1 n0 t1 i2 k4 g5) (spec_l01Opposite.k1g N L0 (mixK (spec_l01Opposite.fin N K .ret) kv))) (fun i2 g3 => L0 (spec_l01Opposite.st0 n0 t1 i2 g3)) (fun o7 => kv (.exit 0) (spec_l01Opposite.sx0_0 t1 o7)) n0 i2 g3) := by kernel_rfl

theorem spec_l01Opposite.b0_eq {ρ : Type} (N : Nat) (K : AV → Heap → Option ρ) (L0 : St → Option ρ) (n0 : Int) (t1 : Nat → Int) (i2 : Int) (g3 : Nat → Int) :
    xcode (E70 N) ents spec_l01Opposite.kp 0 N (cL (cK (cB (cA (cB (cB spec_l01Opposite.bd)))))) 0 (spec_l01Opposite.st0 n0 t1 i2 g3) (roundK spec_l01Opposite.kp 0 0 L0 (spec_l01Opposite.k0 N K)) = (spec_l01Opposite.b0 N (fun d0 => K (.agg [⟨.u8, 512, d0⟩]) []) (fun k4 g5 => xloop (xcode (E70 N) ents spec_l01Opposite.kp 0 N (cL (cK (cB (cK (cA (cB (cL (cK (cB (cA (cB (cB spec_l01Opposite.bd)))))))))))) 2) spec_l01Opposite.kp 0 2 N (spec_l01Opposite.st1 n0 t1 i2 k4 g5) (spec_l01Opposite.k1g N L0 (spec_l01Opposite.k0 N K))) (fun i2 g3 => L0 (spec_l01Opposite.st0 n0 t1 i2 g3)) (fun o7 => (spec_l01Opposite.k0 N K) (.exit 0) (spec_l01Opposite.sx0_0 t1 o7)) n0 i2 g3) := by
  have h := spec_l01Opposite.b0_gen N K L0 (spec_l01Opposite.k0 N K) n0 t1 i2 g3
  rw [spec_l01Opposite.k0_mix] at h
  exact h

theorem spec_l01Opposite.a0_0_eq {ρ : Type} (N : Nat) (K : AV → Heap → Option ρ) (t1 : Nat → Int) (o7 : Nat → Int) :
    (spec_l01Opposite.k0 N K) (.exit 0) (spec_l01Opposite.sx0_0 t1 o7) = (spec_l01Opposite.a0_0 N (fun d0 => K (.agg [⟨.u8, 512, d0⟩]) []) o7) := by kernel_rfl

theorem spec_l01Opposite.l1_eq {ρ : Type} (N : Nat) (K : AV → Heap → Option ρ) (L0 : St → Option ρ) (n0 : Int) (t1 : Nat → Int) (i2 : Int) :
    ∀ (m : Nat) (k4 : Int) (g5 : Nat → Int), xloop (xcode (E70 N) ents spec_l01Opposite.kp 0 N (cL (cK (cB (cK (cA (cB (cL (cK (cB (cA (cB (cB spec_l01Opposite.bd)))))))))))) 2) spec_l01Opposite.kp 0 2 m (spec_l01Opposite.st1 n0 t1 i2 k4 g5) (spec_l01Opposite.k1g N L0 (spec_l01Opposite.k0 N K)) = (spec_l01Opposite.l1 N (fun d0 => K (.agg [⟨.u8, 512, d0⟩]) []) n0 t1 i2 (fun o6 => (spec_l01Opposite.k1g N L0 (spec_l01Opposite.k0 N K)) (.exit 2) (spec_l01Opposite.sx1_0 n0 t1 i2 o6)) m k4 g5) := by
  intro m
  induction m with
  | zero => intros; rfl
  | succ m ih =>
    intro k4 g5
    refine (spec_l01Opposite.b1_eq N K L0 (fun s => xloop (xcode (E70 N) ents spec_l01Opposite.kp 0 N (cL (cK (cB (cK (cA (cB (cL (cK (cB (cA (cB (cB spec_l01Opposite.bd)))))))))))) 2) spec_l01Opposite.kp 0 2 m s (spec_l01Opposite.k1g N L0 (spec_l01Opposite.k0 N K))) n0 t1 i2 k4 g5).trans ?_
    simp only [ih]
    kernel_rfl

theorem spec_l01Opposite.l0_eq {ρ : Type} (N : Nat) (K : AV → Heap → Option ρ) (n0 : Int) (t1 : Nat → Int) :
    ∀ (m : Nat) (i2 : Int) (g3 : Nat → Int), xloop (xcode (E70 N) ents spec_l01Opposite.kp 0 N (cL (cK (cB (cA (cB (cB spec_l01Opposite.bd)))))) 0) spec_l01Opposite.kp 0 0 m (spec_l01Opposite.st0 n0 t1 i2 g3) (spec_l01Opposite.k0 N K) = (spec_l01Opposite.l0 N (fun d0 => K (.agg [⟨.u8, 512, d0⟩]) []) n0 t1 (fun o7 => (spec_l01Opposite.k0 N K) (.exit 0) (spec_l01Opposite.sx0_0 t1 o7)) m i2 g3) := by
  intro m
  induction m with
  | zero => intros; rfl
  | succ m ih =>
    intro i2 g3
    refine (spec_l01Opposite.b0_eq N K (fun s => xloop (xcode (E70 N) ents spec_l01Opposite.kp 0 N (cL (cK (cB (cA (cB (cB spec_l01Opposite.bd)))))) 0) spec_l01Opposite.kp 0 0 m s (spec_l01Opposite.k0 N K)) n0 t1 i2 g3).trans ?_
    simp only [ih, spec_l01Opposite.l1_eq, spec_l01Opposite.a1_0_eq]
    kernel_rfl

theorem spec_l01Opposite.s_eq {ρ : Type} (N : Nat) (K : AV → Heap → Option ρ) (n0 : Int) (t1 : Nat → Int) :
    xbody (E70 N) ents spec_l01Opposite.kp N Go.Proofs.Try.f70 spec_l01Opposite.bd [.int .i64 (n0), .agg [⟨.u8, 512, t1⟩]] [] K = (spec_l01Opposite.s N (fun d0 => K (.agg [⟨.u8, 512, d0⟩]) []) (fun i2 g3 => xloop (xcode (E70 N) ents spec_l01Opposite.kp 0 N (cL (cK (cB (cA (cB (cB spec_l01Opposite.bd)))))) 0) spec_l01Opposite.kp 0 0 N (spec_l01Opposite.st0 n0 t1 i2 g3) (spec_l01Opposite.k0 N K))) := by kernel_rfl

theorem spec_l01Opposite.eq {ρ : Type} (N : Nat) (K : AV → Heap → Option ρ) (n0 : Int) (t1 : Nat → Int) :
    xbody (E70 N) ents spec_l01Opposite.kp N Go.Proofs.Try.f70 spec_l01Opposite.bd [.int .i64 (n0), .agg [⟨.u8, 512, t1⟩]] [] K = (spec_l01Opposite N (fun d0 => K (.agg [⟨.u8, 512, d0⟩]) []) n0 t1) := by
  refine (spec_l01Opposite.s_eq N K n0 t1).trans ?_
  simp only [spec_l01Opposite.l0_eq, spec_l01Opposite.a0_0_eq]
  kernel_rfl

noncomputable def spec_l01Opposite.en (N : Nat) (ρ : Type) : List AV → Heap → (AV → Heap → Option ρ) → Option ρ
  | [.int .i64 (n0), .agg [⟨.u8, 512, t1⟩]], [], K => (spec_l01Opposite N (fun d0 => K (.agg [⟨.u8, 512, d0⟩]) []) n0 t1)
  | _, _, _ => none

theorem spec_l01Opposite.en_ok (N : Nat) (hE : EnvOk (E70 N) ents) (ρ : Type) (args : List AV) (sh : Heap) (K : AV → Heap → Option ρ) (r : ρ) (h : spec_l01Opposite.en N ρ args sh K = some r) : ∃ v sh', K v sh' = some r ∧ FnOk (E70 N).P 70 args sh v sh' := by
  unfold spec_l01Opposite.en at h
  split at h
  · exact fn_ok hE (kp := spec_l01Opposite.kp) (N := N) Go.Proofs.Try.func70 (c := spec_l01Opposite.bd) (by kernel_rfl) ((spec_l01Opposite.eq N _ _ _).trans h)
  · cases h

noncomputable def E71 (N : Nat) : Env := (E70 N).add 70 (spec_l01Opposite.en N)

theorem E71_ok (N : Nat) : EnvOk (E71 N) ents := Env.add_ok (E70_ok N) (spec_l01Opposite.en_ok N (E70_ok N))

noncomputable def spec_OppositeAlgebra.kp : Keeps := ⟨[], []⟩

noncomputable def spec_OppositeAlgebra.bd : Code := bodyOf Go.Proofs.Try.f35

noncomputable def spec_OppositeAlgebra.fin {ρ : Type} (N : Nat) (K : AV → Heap → Option ρ) : XE → St → Option ρ := finK (E71 N) Go.Proofs.Try.f35 [] K

theorem spec_OppositeAlgebra.eq {ρ : Type} (N : Nat) (K : AV → Heap → Option ρ) (a0 : Nat → Int) (a1 : Nat → Int) :
    xbody (E71 N) ents spec_OppositeAlgebra.kp N Go.Proofs.Try.f35 spec_OppositeAlgebra.bd [.agg [⟨.i64, 2, a0⟩, ⟨.u8, 520, a1⟩]] [] K = (spec_OppositeAlgebra N (fun d0 d1 d2 => K (.tup [.agg [⟨.i64, 2, d0⟩, ⟨.u8, 520, d1⟩], .int .i64 (d2)]) []) a0 a1) := by kernel_rfl

noncomputable def spec_OppositeAlgebra.en (N : Nat) (ρ : Type) : List AV → Heap → (AV → Heap → Option ρ) → Option ρ
  | [.agg [⟨.i64, 2, a0⟩, ⟨.u8, 520, a1⟩]], [], K => (spec_OppositeAlgebra N (fun d0 d1 d2 => K (.tup [.agg [⟨.i64, 2, d0⟩, ⟨.u8, 520, d1⟩], .int .i64 (d2)]) []) a0 a1)
  | _, _, _ => none

theorem spec_OppositeAlgebra.en_ok (N : Nat) (hE : EnvOk (E71 N) ents) (ρ : Type) (args : List AV) (sh : Heap) (K : AV → Heap → Option ρ) (r : ρ) (h : spec_OppositeAlgebra.en N ρ args sh K = some r) : ∃ v sh', K v sh' = some r ∧ FnOk (E71 N).P 35 args sh v sh' := by
  unfold spec_OppositeAlgebra.en at h
  split at h
  · exact fn_ok hE (kp := spec_OppositeAlgebra.kp) (N := N) Go.Proofs.Try.func35 (c := spec_OppositeAlgebra.bd) (by kernel_rfl) ((spec_OppositeAlgebra.eq N _ _ _).trans h)
  · cases h

noncomputable def E72 (N : Nat) : Env := (E71 N).add 35 (spec_OppositeAlgebra.en N)

theorem E72_ok (N : Nat) : EnvOk (E72 N) ents := Env.add_ok (E71_ok N) (spec_OppositeAlgebra.en_ok N (E71_ok N))

noncomputable def impl_OppositeAlgebra.kp : Keeps := ⟨[], []⟩

noncomputable def impl_OppositeAlgebra.bd : Code := bodyOf Go.Proofs.Try.f36

noncomputable def impl_OppositeAlgebra.fin {ρ : Type} (N : Nat) (K : AV → Heap → Option ρ) : XE → St → Option ρ := finK (E72 N) Go.Proofs.Try.f36 [] K

theorem impl_OppositeAlgebra.eq {ρ : Type} (N : Nat) (K : AV → Heap → Option ρ) (a0 : Nat → Int) (a1 : Nat → Int) :
    xbody (E72 N) ents impl_OppositeAlgebra.kp N Go.Proofs.Try.f36 impl_OppositeAlgebra.bd [.agg [⟨.i64, 2, a0⟩, ⟨.u8, 520, a1⟩]] [] K = (impl_OppositeAlgebra N (fun d0 d1 d2 => K (.tup [.agg [⟨.i64, 2, d0⟩, ⟨.u8, 520, d1⟩], .int .i64 (d2)]) []) a0 a1) := by kernel_rfl

noncomputable def impl_OppositeAlgebra.en (N : Nat) (ρ : Type) : List AV → Heap → (AV → Heap → Option ρ) → Option ρ
  | [.agg [⟨.i64, 2, a0⟩, ⟨.u8, 520, a1⟩]], [], K => (impl_OppositeAlgebra N (fun d0 d1 d2 => K (.tup [.agg [⟨.i64, 2, d0⟩, ⟨.u8, 520, d1⟩], .int .i64 (d2)]) []) a0 a1)
  | _, _, _ => none

theorem impl_OppositeAlgebra.en_ok (N : Nat) (hE : EnvOk (E72 N) ents) (ρ : Type) (args : List AV) (sh : Heap) (K : AV → Heap → Option ρ) (r : ρ) (h : impl_OppositeAlgebra.en N ρ args sh K = some r) : ∃ v sh', K v sh' = some r ∧ FnOk (E72 N).P 36 args sh v sh' := by
  unfold impl_OppositeAlgebra.en at h
  split at h
  · exact fn_ok hE (kp := impl_OppositeAlgebra.kp) (N := N) Go.Proofs.Try.func36 (c := impl_OppositeAlgebra.bd) (by kernel_rfl) ((impl_OppositeAlgebra.eq N _ _ _).trans h)
  · cases h

noncomputable def E73 (N : Nat) : Env := (E72 N).add 36 (impl_OppositeAlgebra.en N)

theorem E73_ok (N : Nat) : EnvOk (E73 N) ents := Env.add_ok (E72_ok N) (impl_OppositeAlgebra.en_ok N (E72_ok N))

noncomputable def laws_eqTable.kp : Keeps := ⟨[(0, [2, 3, 5], 2)], [(0, [], 2)]⟩

noncomputable def laws_eqTable.bd : Code := bodyOf Go.Proofs.Try.f71

noncomputable def laws_eqTable.fin {ρ : Type} (N : Nat) (K : AV → Heap → Option ρ) : XE → St → Option ρ := finK (E73 N) Go.Proofs.Try.f71 [] K

noncomputable def laws_eqTable.k0 {ρ : Type} (N : Nat) (K : AV → Heap → Option ρ) : XE → St → Option ρ := (blockK laws_eqTable.kp 0 0 (seqK (xcode (E73 N) ents laws_eqTable.kp 0 N (cB (cB laws_eqTable.bd)) 0) (laws_eqTable.fin N K)))

theorem laws_eqTable.k0_mix {ρ : Type} (N : Nat) (K : AV → Heap → Option ρ) : mixK (laws_eqTable.fin N K .ret) (laws_eqTable.k0 N K) = (laws_eqTable.k0 N K) := by
  funext e s; cases e <;> rfl

noncomputable def laws_eqTable.st0 (a0 : Nat → Int) (b1 : Nat → Int) (i2 : Int) : St := ⟨sl 18 [(2, .sptr [(0, 512)]), (3, .sptr [(1, 512)]), (5, .int .i64 (i2))], [⟨true, .ints .u8 512 a0⟩, ⟨true, .ints .u8 512 b1⟩]⟩

noncomputable def laws_eqTable.sx0_0 (a0 : Nat → Int) (b1 : Nat → Int) : St := ⟨sl 18 [], [⟨true, .ints .u8 512 a0⟩, ⟨true, .ints .u8 512 b1⟩]⟩

theorem laws_eqTable.b0_gen {ρ : Type} (N : Nat) (K : AV → Heap → Option ρ) (L0 : St → Option ρ) (kv : XE → St → Option ρ) (a0 : Nat → Int) (b1 : Nat → Int) (i2 : Int) :
    xcode (E73 N) ents laws_eqTable.kp 0 N (cL (cK (cB (cA (cB laws_eqTable.bd))))) 0 (laws_eqTable.st0 a0 b1 i2) (roundK laws_eqTable.kp 0 0 L0 (mixK (laws_eqTable.fin N K .ret) kv)) = (laws_eqTable.b0 N (fun d0 => K (.bool (d0)) []) (fun i2 => L0 (laws_eqTable.st0 a0 b1 i2)) (kv (.exit 0) (laws_eqTable.sx0_0 a0 b1)) a0 b1 i2) := by kernel_rfl

theorem laws_eqTable.b0_eq {ρ : Type} (N : Nat) (K : AV → Heap → Option ρ) (L0 : St → Option ρ) (a0 : Nat → Int) (b1 : Nat → Int) (i2 : Int) :
    xcode (E73 N) ents laws_eqTable.kp 0 N (cL (cK (cB (cA (cB laws_eqTable.bd))))) 0 (laws_eqTable.st0 a0 b1 i2) (roundK laws_eqTable.kp 0 0 L0 (laws_eqTable.k0 N K)) = (laws_eqTable.b0 N (fun d0 => K (.bool (d0)) []) (fun i2 => L0 (laws_eqTable.st0 a0 b1 i2)) ((laws_eqTable.k0 N K) (.exit 0) (laws_eqTable.sx0_0 a0 b1)) a0 b1 i2) := by
  have h := laws_eqTable.b0_gen N K L0 (laws_eqTable.k0 N K) a0 b1 i2
  rw [laws_eqTable.k0_mix] at h
  exact h

theorem laws_eqTable.a0_0_eq {ρ : Type} (N : Nat) (K : AV → Heap → Option ρ) (a0 : Nat → Int) (b1 : Nat → Int) :
    (laws_eqTable.k0 N K) (.exit 0) (laws_eqTable.sx0_0 a0 b1) = (laws_eqTable.a0_0 N (fun d0 => K (.bool (d0)) [])) := by kernel_rfl

theorem laws_eqTable.l0_eq {ρ : Type} (N : Nat) (K : AV → Heap → Option ρ) (a0 : Nat → Int) (b1 : Nat → Int) :
    ∀ (m : Nat) (i2 : Int), xloop (xcode (E73 N) ents laws_eqTable.kp 0 N (cL (cK (cB (cA (cB laws_eqTable.bd))))) 0) laws_eqTable.kp 0 0 m (laws_eqTable.st0 a0 b1 i2) (laws_eqTable.k0 N K) = (laws_eqTable.l0 N (fun d0 => K (.bool (d0)) []) a0 b1 ((laws_eqTable.k0 N K) (.exit 0) (laws_eqTable.sx0_0 a0 b1)) m i2) := by
  intro m
  induction m with
  | zero => intros; rfl
  | succ m ih =>
    intro i2
    refine (laws_eqTable.b0_eq N K (fun s => xloop (xcode (E73 N) ents laws_eqTable.kp 0 N (cL (cK (cB (cA (cB laws_eqTable.bd))))) 0) laws_eqTable.kp 0 0 m s (laws_eqTable.k0 N K)) a0 b1 i2).trans ?_
    simp only [ih]
    kernel_rfl

theorem laws_eqTable.s_eq {ρ : Type} (N : Nat) (K : AV → Heap → Option ρ) (a0 : Nat → Int) (b1 : Nat → Int) :
    xbody (E73 N) ents laws_eqTable.kp N Go.Proofs.Try.f71 laws_eqTable.bd [.agg [⟨.u8, 512, a0⟩], .agg [⟨.u8, 512, b1⟩]] [] K = (laws_eqTable.s N (fun d0 => K (.bool (d0)) []) (fun i2 => xloop (xcode (E73 N) ents laws_eqTable.kp 0 N (cL (cK (cB (cA (cB laws_eqTable.bd))))) 0) laws_eqTable.kp 0 0 N (laws_eqTable.st0 a0 b1 i2) (laws_eqTable.k0 N K))) := by kernel_rfl

theorem laws_eqTable.eq {ρ : Type} (N : Nat) (K : AV → Heap → Option ρ) (a0 : Nat → Int) (b1 : Nat → Int) :
    xbody (E73 N) ents laws_eqTable.kp N Go.Proofs.Try.f71 laws_eqTable.bd [.agg [⟨.u8, 512, a0⟩], .agg [⟨.u8, 512, b1⟩]] [] K = (laws_eqTable N (fun d0 => K (.bool (d0)) []) a0 b1) := by
  refine (laws_eqTable.s_eq N K a0 b1).trans ?_
  simp only [laws_eqTable.l0_eq, laws_eqTable.a0_0_eq]
  kernel_rfl

noncomputable def laws_eqTable.en (N : Nat) (ρ : Type) : List AV → Heap → (AV → Heap → Option ρ) → Option ρ
  | [.agg [⟨.u8, 512, a0⟩], .agg [⟨.u8, 512, b1⟩]], [], K => (laws_eqTable N (fun d0 => K (.bool (d0)) []) a0 b1)
  | _, _, _ => none

theorem laws_eqTable.en_ok (N : Nat) (hE : EnvOk (E73 N) ents) (ρ : Type) (args : List AV) (sh : Heap) (K : AV → Heap → Option ρ) (r : ρ) (h : laws_eqTable.en N ρ args sh K = some r) : ∃ v sh', K v sh' = some r ∧ FnOk (E73 N).P 71 args sh v sh' := by
  unfold laws_eqTable.en at h
  split at h
  · exact fn_ok hE (kp := laws_eqTable.kp) (N := N) Go.Proofs.Try.func71 (c := laws_eqTable.bd) (by kernel_rfl) ((laws_eqTable.eq N _ _ _).trans h)
  · cases h

noncomputable def E74 (N : Nat) : Env := (E73 N).add 71 (laws_eqTable.en N)

theorem E74_ok (N : Nat) : EnvOk (E74 N) ents := Env.add_ok (E73_ok N) (laws_eqTable.en_ok N (E73_ok N))

noncomputable def laws_eqAlgebra.kp : Keeps := ⟨[], []⟩

noncomputable def laws_eqAlgebra.bd : Code := bodyOf Go.Proofs.Try.f37

noncomputable def laws_eqAlgebra.fin {ρ : Type} (N : Nat) (K : AV → Heap → Option ρ) : XE → St → Option ρ := finK (E74 N) Go.Proofs.Try.f37 [] K

theorem laws_eqAlgebra.eq {ρ : Type} (N : Nat) (K : AV → Heap → Option ρ) (a0 : Nat → Int) (a1 : Nat → Int) (b2 : Nat → Int) (b3 : Nat → Int) :
    xbody (E74 N) ents laws_eqAlgebra.kp N Go.Proofs.Try.f37 laws_eqAlgebra.bd [.agg [⟨.i64, 2, a0⟩, ⟨.u8, 520, a1⟩], .agg [⟨.i64, 2, b2⟩, ⟨.u8, 520, b3⟩]] [] K = (laws_eqAlgebra N (fun d0 => K (.bool (d0)) []) a0 a1 b2 b3) := by kernel_rfl

noncomputable def laws_eqAlgebra.en (N : Nat) (ρ : Type) : List AV → Heap → (AV → Heap → Option ρ) → Option ρ
  | [.agg [⟨.i64, 2, a0⟩, ⟨.u8, 520, a1⟩], .agg [⟨.i64, 2, b2⟩, ⟨.u8, 520, b3⟩]], [], K => (laws_eqAlgebra N (fun d0 => K (.bool (d0)) []) a0 a1 b2 b3)
  | _, _, _ => none

theorem laws_eqAlgebra.en_ok (N : Nat) (hE : EnvOk (E74 N) ents) (ρ : Type) (args : List AV) (sh : Heap) (K : AV → Heap → Option ρ) (r : ρ) (h : laws_eqAlgebra.en N ρ args sh K = some r) : ∃ v sh', K v sh' = some r ∧ FnOk (E74 N).P 37 args sh v sh' := by
  unfold laws_eqAlgebra.en at h
  split at h
  · exact fn_ok hE (kp := laws_eqAlgebra.kp) (N := N) Go.Proofs.Try.func37 (c := laws_eqAlgebra.bd) (by kernel_rfl) ((laws_eqAlgebra.eq N _ _ _ _ _).trans h)
  · cases h

noncomputable def E75 (N : Nat) : Env := (E74 N).add 37 (laws_eqAlgebra.en N)

theorem E75_ok (N : Nat) : EnvOk (E75 N) ents := Env.add_ok (E74_ok N) (laws_eqAlgebra.en_ok N (E74_ok N))

noncomputable def laws_FnExactOppositeAlgebra.kp : Keeps := ⟨[], []⟩

noncomputable def laws_FnExactOppositeAlgebra.bd : Code := bodyOf Go.Proofs.Try.f10

noncomputable def laws_FnExactOppositeAlgebra.fin {ρ : Type} (N : Nat) (K : AV → Heap → Option ρ) : XE → St → Option ρ := finK (E75 N) Go.Proofs.Try.f10 [] K

theorem laws_FnExactOppositeAlgebra.eq {ρ : Type} (N : Nat) (K : AV → Heap → Option ρ) (aA0 : Nat → Int) (aA1 : Nat → Int) :
    xbody (E75 N) ents laws_FnExactOppositeAlgebra.kp N Go.Proofs.Try.f10 laws_FnExactOppositeAlgebra.bd [.agg [⟨.i64, 2, aA0⟩, ⟨.u8, 520, aA1⟩]] [] K = (laws_FnExactOppositeAlgebra N (fun d0 => K (.bool (d0)) []) aA0 aA1) := by kernel_rfl

noncomputable def laws_FnExactOppositeAlgebra.en (N : Nat) (ρ : Type) : List AV → Heap → (AV → Heap → Option ρ) → Option ρ
  | [.agg [⟨.i64, 2, aA0⟩, ⟨.u8, 520, aA1⟩]], [], K => (laws_FnExactOppositeAlgebra N (fun d0 => K (.bool (d0)) []) aA0 aA1)
  | _, _, _ => none

theorem laws_FnExactOppositeAlgebra.en_ok (N : Nat) (hE : EnvOk (E75 N) ents) (ρ : Type) (args : List AV) (sh : Heap) (K : AV → Heap → Option ρ) (r : ρ) (h : laws_FnExactOppositeAlgebra.en N ρ args sh K = some r) : ∃ v sh', K v sh' = some r ∧ FnOk (E75 N).P 10 args sh v sh' := by
  unfold laws_FnExactOppositeAlgebra.en at h
  split at h
  · exact fn_ok hE (kp := laws_FnExactOppositeAlgebra.kp) (N := N) Go.Proofs.Try.func10 (c := laws_FnExactOppositeAlgebra.bd) (by kernel_rfl) ((laws_FnExactOppositeAlgebra.eq N _ _ _).trans h)
  · cases h

noncomputable def E76 (N : Nat) : Env := (E75 N).add 10 (laws_FnExactOppositeAlgebra.en N)

theorem E76_ok (N : Nat) : EnvOk (E76 N) ents := Env.add_ok (E75_ok N) (laws_FnExactOppositeAlgebra.en_ok N (E75_ok N))

noncomputable def spec_l02Turned.kp : Keeps := ⟨[(0, [1, 2, 3, 4], 3), (2, [1, 2, 3, 4, 5], 3), (4, [1, 2, 3, 4, 5, 6], 3)], [(0, [2, 3], 3), (2, [1, 2, 3, 4], 3), (4, [1, 2, 3, 4, 5], 3)]⟩

noncomputable def spec_l02Turned.bd : Code := bodyOf Go.Proofs.Try.f72

noncomputable def spec_l02Turned.fin {ρ : Type} (N : Nat) (K : AV → Heap → Option ρ) : XE → St → Option ρ := finK (E76 N) Go.Proofs.Try.f72 [] K

noncomputable def spec_l02Turned.k0 {ρ : Type} (N : Nat) (K : AV → Heap → Option ρ) : XE → St → Option ρ := (blockK spec_l02Turned.kp 0 0 (seqK (xcode (E76 N) ents spec_l02Turned.kp 0 N (cB (cB (cB spec_l02Turned.bd))) 0) (spec_l02Turned.fin N K)))

theorem spec_l02Turned.k0_mix {ρ : Type} (N : Nat) (K : AV → Heap → Option ρ) : mixK (spec_l02Turned.fin N K .ret) (spec_l02Turned.k0 N K) = (spec_l02Turned.k0 N K) := by
  funext e s; cases e <;> rfl

noncomputable def spec_l02Turned.st0 (t0 : Nat → Int) (i1 : Int) (g2 : Nat → Int) : St := ⟨sl 34 [(1, .sptr [(0, 512)]), (2, .sptr [(1, 512)]), (3, .sptr [(2, 512)]), (4, .int .i64 (i1))], [⟨true, .ints .u8 512 t0⟩, ⟨true, .ints .u8 512 (fun _ => 0)⟩, ⟨true, .ints .u8 512 g2⟩]⟩

noncomputable def spec_l02Turned.sx0_0 (t0 : Nat → Int) (o9 : Nat → Int) : St := ⟨sl 34 [(2, .sptr [(1, 512)]), (3, .sptr [(2, 512)])], [⟨true, .ints .u8 512 t0⟩, ⟨true, .ints .u8 512 (fun _ => 0)⟩, ⟨true, .ints .u8 512 o9⟩]⟩

noncomputable def spec_l02Turned.k1g {ρ : Type} (N : Nat) (L0 : St → Option ρ) (kv : XE → St → Option ρ) : XE → St → Option ρ := (blockK spec_l02Turned.kp 0 2 (blockK spec_l02Turned.kp 0 1 (seqK (xcode (E76 N) ents spec_l02Turned.kp 0 N (cB (cB (cL (cK (cB (cA (cB (cB spec_l02Turned.bd)))))))) 0) (roundK spec_l02Turned.kp 0 0 L0 kv))))

theorem spec_l02Turned.k1_mix {ρ : Type} (N : Nat) (K : AV → Heap → Option ρ) (L0 : St → Option ρ) : mixK (spec_l02Turned.fin N K .ret) (spec_l02Turned.k1g N L0 (spec_l02Turned.k0 N K)) = (spec_l02Turned.k1g N L0 (spec_l02Turned.k0 N K)) := by
  funext e s; cases e <;> rfl

noncomputable def spec_l02Turned.st1 (t0 : Nat → Int) (i1 : Int) (j3 : Int) (g4 : Nat → Int) : St := ⟨sl 34 [(1, .sptr [(0, 512)]), (2, .sptr [(1, 512)]), (3, .sptr [(2, 512)]), (4, .int .i64 (i1)), (5, .int .i64 (j3))], [⟨true, .ints .u8 512 t0⟩, ⟨true, .ints .u8 512 (fun _ => 0)⟩, ⟨true, .ints .u8 512 g4⟩]⟩

noncomputable def spec_l02Turned.sx1_0 (t0 : Nat → Int) (i1 : Int) (o8 : Nat → Int) : St := ⟨sl 34 [(1, .sptr [(0, 512)]), (2, .sptr [(1, 512)]), (3, .sptr [(2, 512)]), (4, .int .i64 (i1))], [⟨true, .ints .u8 512 t0⟩, ⟨true, .ints .u8 512 (fun _ => 0)⟩, ⟨true, .ints .u8 512 o8⟩]⟩

noncomputable def spec_l02Turned.k2g {ρ : Type} (N : Nat) (L1 : St → Option ρ) (kv : XE → St → Option ρ) : XE → St → Option ρ := (blockK spec_l02Turned.kp 0 4 (blockK spec_l02Turned.kp 0 3 (seqK (xcode (E76 N) ents spec_l02Turned.kp 0 N (cB (cB (cL (cK (cB (cK (cA (cB (cL (cK (cB (cA (cB (cB spec_l02Turned.bd)))))))))))))) 2) (roundK spec_l02Turned.kp 0 2 L1 kv))))

theorem spec_l02Turned.k2_mix {ρ : Type} (N : Nat) (K : AV → Heap → Option ρ) (L0 : St → Option ρ) (L1 : St → Option ρ) : mixK (spec_l02Turned.fin N K .ret) (spec_l02Turned.k2g N L1 (spec_l02Turned.k1g N L0 (spec_l02Turned.k0 N K))) = (spec_l02Turned.k2g N L1 (spec_l02Turned.k1g N L0 (spec_l02Turned.k0 N K))) := by
  funext e s; cases e <;> rfl

noncomputable def spec_l02Turned.st2 (t0 : Nat → Int) (i1 : Int) (j3 : Int) (k5 : Int) (g6 : Nat → Int) : St := ⟨sl 34 [(1, .sptr [(0, 512)]), (2, .sptr [(1, 512)]), (3, .sptr [(2, 512)]), (4, .int .i64 (i1)), (5, .int .i64 (j3)), (6, .int .i64 (k5))], [⟨true, .ints .u8 512 t0⟩, ⟨true, .ints .u8 512 (fun _ => 0)⟩, ⟨true, .ints .u8 512 g6⟩]⟩

noncomputable def spec_l02Turned.sx2_0 (t0 : Nat → Int) (i1 : Int) (j3 : Int) (o7 : Nat → Int) : St := ⟨sl 34 [(1, .sptr [(0, 512)]), (2, .sptr [(1, 512)]), (3, .sptr [(2, 512)]), (4, .int .i64 (i1)), (5, .int .i64 (j3))], [⟨true, .ints .u8 512 t0⟩, ⟨true, .ints .u8 512 (fun _ => 0)⟩, ⟨true, .ints .u8 512 o7⟩]⟩

theorem spec_l02Turned.b2_gen {ρ : Type} (N : Nat) (K : AV → Heap → Option ρ) (L2 : St → Option ρ) (kv : XE → St → Option ρ) (t0 : Nat → Int) (i1 : Int) (j3 : Int) (k5 : Int) (g6 : Nat → Int) :
    xcode (E76 N) ents spec_l02Turned.kp 0 N (cL (cK (cB (cK (cA (cB (cL (cK (cB (cK (cA (cB (cL (cK (cB (cA (cB (cB spec_l02Turned.bd)))))))))))))))))) 4 (spec_l02Turned.st2 t0 i1 j3 k5 g6) (roundK spec_l02Turned.kp 0 4 L2 (mixK (spec_l02Turned.fin N K .ret) kv)) = (spec_l02Turned.b2 N (fun d0 => K (.agg [⟨.u8, 512, d0⟩]) []) (fun k5 g6 => L2 (spec_l02Turned.st2 t0 i1 j3 k5 g6)) (fun o7 => kv (.exit 4) (spec_l02Turned.sx2_0 t0 i1 j3 o7)) t0 i1 j3 k5 g6) := by kernel_rfl

theorem spec_l02Turned.b2_eq {ρ : Type} (N : Nat) (K : AV → Heap → Option ρ) (L0 : St → Option ρ) (L1 : St → Option ρ) (L2 : St → Option ρ) (t0 : Nat → Int) (i1 : Int) (j3 : Int) (k5 : Int) (g6 : Nat → Int) :
    xcode (E76 N) ents spec_l02Turned.kp 0 N (cL (cK (cB (cK (cA (cB (cL (cK (cB (cK (cA (cB (cL (cK (cB (cA (cB (cB spec_l02Turned.bd)))))))))))))))))) 4 (spec_l02Turned.st2 t0 i1 j3 k5 g6) (roundK spec_l02Turned.kp 0 4 L2 (spec_l02Turned.k2g N L1 (spec_l02Turned.k1g N L0 (spec_l02Turned.k0 N K)))) = (spec_l02Turned.b2 N (fun d0 => K (.agg [⟨.u8, 512, d0⟩]) []) (fun k5 g6 => L2 (spec_l02Turned.st2 t0 i1 j3 k5 g6)) (fun o7 => (spec_l02Turned.k2g N L1 (spec_l02Turned.k1g N L0 (spec_l02Turned.k0 N K))) (.exit 4) (spec_l02Turned.sx2_0 t0 i1 j3 o7)) t0 i1 j3 k5 g6) := by
  have h := spec_l02Turned.b2_gen N K L2 (spec_l02Turned.k2g N L1 (spec_l02Turned.k1g N L0 (spec_l02Turned.k0 N K))) t0 i1 j3 k5 g6
  rw [spec_l02Turned.k2_mix] at h
  exact h

theorem spec_l02Turned.a2_0_gen {ρ : Type} (N : Nat) (K : AV → Heap → Option ρ) (L1 : St → Option ρ) (kv : XE → St → Option ρ) (t0 : Nat → Int) (i1 : Int) (j3 : Int) (o7 : Nat → Int) :
    (spec_l02Turned.k2g N L1 (mixK (spec_l02Turned.fin N K .ret) kv)) (.exit 4) (spec_l02Turned.sx2_0 t0 i1 j3 o7) = (spec_l02Turned.a2_0 N (fun d0 => K (.agg [⟨.u8, 512, d0⟩]) []) (fun j3 g4 => L1 (spec_l02Turned.st1 t0 i1 j3 g4)) (fun o8 => kv (.exit 2) (spec_l02Turned.sx1_0 t0 i1 o8)) j3 o7) := by kernel_rfl

theorem spec_l02Turned.a2_0_eq {ρ : Type} (N : Nat) (K : AV → Heap → Option ρ) (L0 : St → Option ρ) (L1 : St → Option ρ) (t0 : Nat → Int) (i1 : Int) (j3 : Int) (o7 : Nat → Int) :
    (spec_l02Turned.k2g N L1 (spec_l02Turned.k1g N L0 (spec_l02Turned.k0 N K))) (.exit 4) (spec_l02Turned.sx2_0 t0 i1 j3 o7) = (spec_l02Turned.a2_0 N (fun d0 => K (.agg [⟨.u8, 512, d0⟩]) []) (fun j3 g4 => L1 (spec_l02Turned.st1 t0 i1 j3 g4)) (fun o8 => (spec_l02Turned.k1g N L0 (spec_l02Turned.k0 N K)) (.exit 2) (spec_l02Turned.sx1_0 t0 i1 o8)) j3 o7) := by
  have h := spec_l02Turned.a2_0_gen N K L1 (spec_l02Turned.k1g N L0 (spec_l02Turned.k0 N K)) t0 i1 j3 o7
  rw [spec_l02Turned.k1_mix] at h
  exact h

theorem spec_l02Turned.b1_gen {ρ : Type} (N : Nat) (K : AV → Heap → Option ρ) (L1 : St → Option ρ) (kv : XE → St → Option ρ) (t0 : Nat → Int) (i1 : Int) (j3 : Int) (g4 : Nat → Int) :
    xcode (E76 N) ents spec_l02Turned.kp 0 N (cL (cK (cB (cK (cA (cB (cL (cK (cB (cA (cB (cB spec_l02Turned.bd)))))))))))) 2 (spec_l02Turned.st1 t0 i1 j3 g4) (roundK spec_l02Turned.kp 0 2 L1 (mixK (spec_l02Turned.fin N K .ret) kv)) = (spec_l02Turned.b1 N (fun d0 => K (.agg [⟨.u8, 512, d0⟩]) []) (fun k5 g6 => xloop (xcode (E76 N) ents spec_l02Turned.kp 0 N (cL (cK (cB (cK (cA (cB (cL (cK (cB (cK (cA (cB (cL (cK (cB (cA (cB (cB spec_l02Turned.bd)))))))))))))))))) 4) spec_l02Turned.kp 0 4 N (spec_l02Turned.st2 t0 i1 j3 k5 g6) (spec_l02Turned.k2g N L1 (mixK (spec_l02Turned.fin N K .ret) kv))) (fun j3 g4 => L1 (spec_l02Turned.st1 t0 i1 j3 g4)) (fun o8 => kv (.exit 2) (spec_l02Turned.sx1_0 t0 i1 o8)) j3 g4) := by kernel_rfl

theorem spec_l02Turned.b1_eq {ρ : Type} (N : Nat) (K : AV → Heap → Option ρ) (L0 : St → Option ρ) (L1 : St → Option ρ) (t0 : Nat → Int) (i1 : Int) (j3 : Int) (g4 : Nat → Int) :
    xcode (E76 N) ents spec_l02Turned.kp 0 N (cL (cK (cB (cK (cA (cB (cL (cK (cB (cA (cB (cB spec_l02Turned.bd)))))))))))) 2 (spec_l02Turned.st1 t0 i1 j3 g4) (roundK spec_l02Turned.kp 0 2 L1 (spec_l02Turned.k1g N L0 (spec_l02Turned.k0 N K))) = (spec_l02Turned.b1 N (fun d0 => K (.agg [⟨.u8, 512, d0⟩]) []) (fun k5 g6 => xloop (xcode (E76 N) ents spec_l02Turned.kp 0 N (cL (cK (cB (cK (cA (cB (cL (cK (cB (cK (cA (cB (cL (cK (cB (cA (cB (cB spec_l02Turned.bd)))))))))))))))))) 4) spec_l02Turned.kp 0 4 N (spec_l02Turned.st2 t0 i1 j3 k5 g6) (spec_l02Turned.k2g N L1 (spec_l02Turned.k1g N L0 (spec_l02Turned.k0 N K)))) (fun j3 g4 => L1 (spec_l02Turned.st1 t0 i1 j3 g4)) (fun o8 => (spec_l02Turned.k1g N L0 (spec_l02Turned.k0 N K)) (.exit 2) (spec_l02Turned.sx1_0 t0 i1 o8)) j3 g4) := by
  have h := spec_l02Turned.b1_gen N K L1 (spec_l02Turned.k1g N L0 (spec_l02Turned.k0 N K)) t0 i1 j3 g4
  rw [spec_l02Turned.k1_mix] at h
  exact h

theorem spec_l02Turned.a1_0_gen {ρ : Type} (N : Nat) (K : AV → Heap → Option ρ) (L0 : St → Option ρ) (kv : XE → St → Option ρ) (t0 : Nat → Int) (i1 : Int) (o8 : Nat → Int) :
    (spec_l02Turned.k1g N L0 (mixK (spec_l02Turned.fin N K .ret) kv)) (.exit 2) (spec_l02Turned.sx1_0 t0 i1 o8) = (spec_l02Turned.a1_0 N (fun d0 => K (.agg [⟨.u8, 512, d0⟩]) []) (fun i1 g2 => L0 (spec_l02Turned.st0 t0 i1 g2)) (fun o9 => kv (.exit 0) (spec_l02Turned.sx0_0 t0 o9)) i1 o8) := by kernel_rfl

theorem spec_l02Turned.a1_0_eq {ρ : Type} (N : Nat) (K : AV → Heap → Option ρ) (L0 : St → Option ρ) (t0 : Nat → Int) (i1 : Int) (o8 : Nat → Int) :
    (spec_l02Turned.k1g N L0 (spec_l02Turned.k0 N K)) (.exit 2) (spec_l02Turned.sx1_0 t0 i1 o8) = (spec_l02Turned.a1_0 N (fun d0 => K (.agg [⟨.u8, 512, d0⟩]) []) (fun i1 g2 => L0 (spec_l02Turned.st0 t0 i1 g2)) (fun o9 => (spec_l02Turned.k0 N K) (.exit 0) (spec_l02Turned.sx0_0 t0 o9)) i1 o8) := by
  have h := spec_l02Turned.a1_0_gen N K L0 (spec_l02Turned.k0 N K) t0 i1 o8
  rw [spec_l02Turned.k0_mix] at h
  exact h

theorem spec_l02Turned.b0_gen {ρ : Type} (N : Nat) (K : AV → Heap → Option ρ) (L0 : St → Option ρ) (kv : XE → St → Option ρ) (t0 : Nat → Int) (i1 : Int) (g2 : Nat → Int) :
    xcode (E76 N) ents spec_l02Turned.kp 0 N (cL (cK (cB (cA (cB (cB spec_l02Turned.bd)))))) 0 (spec_l02Turned.st0 t0 i1 g2) (roundK spec_l02Turned.kp 0 0 L0 (mixK (spec_l02Turned.fin N K .ret) kv)) = (spec_l02Turned.b0 N (fun d0 => K (.agg [⟨.u8, 512, d0⟩]) []) (fun j3 g4 => xloop (xcode (E76 N) ents spec_l02Turned.kp 0 N (cL (cK (cB (cK (cA (cB (cL (cK (cB (cA (cB (cB spec_l02Turned.bd)))))))))))) 2) spec_l02Turned.kp 0 2 N (spec_l02Turned.st1 t0 i1 j3 g4) (spec_l02Turned.k1g N L0 (mixK (spec_l02Turned.fin N K .ret) kv))) (fun i1 g2 => L0 (spec_l02Turned.st0 t0 i1 g2)) (fun o9 => kv (.exit 0) (spec_l02Turned.sx0_0 t0 o9)) i1 g2) := by kernel_rfl

theorem spec_l02Turned.b0_eq {ρ : Type} (N : Nat) (K : AV → Heap → Option ρ) (L0 : St → Option ρ) (t0 : Nat → Int) (i1 : Int) (g2 : Nat → Int) :
    xcode (E76 N) ents spec_l02Turned.kp 0 N (cL (cK (cB (cA (cB (cB spec_l02Turned.bd)))))) 0 (spec_l02Turned.st0 t0 i1 g2) (roundK spec_l02Turned.kp 0 0 L0 (spec_l02Turned.k0 N K)) = (spec_l02Turned.b0 N (fun d0 => K (.agg [⟨.u8, 512, d0⟩]) []) (fun j3 g4 => xloop (xcode (E76 N) ents spec_l02Turned.kp 0 N (cL (cK (cB (cK (cA (cB (cL (cK (cB (cA (cB (cB spec_l02Turned.bd)))))))))))) 2) spec_l02Turned.kp 0 2 N (spec_l02Turned.st1 t0 i1 j3 g4) (spec_l02Turned.k1g N L0 (spec_l02Turned.k0 N K))) (fun i1 g2 => L0 (spec_l02Turned.st0 t0 i1 g2)) (fun o9 => (spec_l02Turned.k0 N K) (.exit 0) (spec_l02Turned.sx0_0 t0 o9)) i1 g2) := by
  have h := spec_l02Turned.b0_gen N K L0 (spec_l02Turned.k0 N K) t0 i1 g2
  rw [spec_l02Turned.k0_mix] at h
  exact h

theorem spec_l02Turned.a0_0_eq {ρ : Type} (N : Nat) (K : AV → Heap → Option ρ) (t0 : Nat → Int) (o9 : Nat → Int) :
    (spec_l02Turned.k0 N K) (.exit 0) (spec_l02Turned.sx0_0 t0 o9) = (spec_l02Turned.a0_0 N (fun d0 => K (.agg [⟨.u8, 512, d0⟩]) []) o9) := by kernel_rfl

theorem spec_l02Turned.l2_eq {ρ : Type} (N : Nat) (K : AV → Heap → Option ρ) (L0 : St → Option ρ) (L1 : St → Option ρ) (t0 : Nat → Int) (i1 : Int) (j3 : Int) :
    ∀ (m : Nat) (k5 : Int) (g6 : Nat → Int), xloop (xcode (E76 N) ents spec_l02Turned.kp 0 N (cL (cK (cB (cK (cA (cB (cL (cK (cB (cK (cA (cB (cL (cK (cB (cA (cB (cB spec_l02Turned.bd)))))))))))))))))) 4) spec_l02Turned.kp 0 4 m (spec_l02Turned.st2 t0 i1 j3 k5 g6) (spec_l02Turned.k2g N L1 (spec_l02Turned.k1g N L0 (spec_l02Turned.k0 N K))) = (spec_l02Turned.l2 N (fun d0 => K (.agg [⟨.u8, 512, d0⟩]) []) t0 i1 j3 (fun o7 => (spec_l02Turned.k2g N L1 (spec_l02Turned.k1g N L0 (spec_l02Turned.k0 N K))) (.exit 4) (spec_l02Turned.sx2_0 t0 i1 j3 o7)) m k5 g6) := by
  intro m
  induction m with
  | zero => intros; rfl
  | succ m ih =>
    intro k5 g6
    refine (spec_l02Turned.b2_eq N K L0 L1 (fun s => xloop (xcode (E76 N) ents spec_l02Turned.kp 0 N (cL (cK (cB (cK (cA (cB (cL (cK (cB (cK (cA (cB (cL (cK (cB (cA (cB (cB spec_l02Turned.bd)))))))))))))))))) 4) spec_l02Turned.kp 0 4 m s (spec_l02Turned.k2g N L1 (spec_l02Turned.k1g N L0 (spec_l02Turned.k0 N K)))) t0 i1 j3 k5 g6).trans ?_
    simp only [ih]
    kernel_rfl

theorem spec_l02Turned.l1_eq {ρ : Type} (N : Nat) (K : AV → Heap → Option ρ) (L0 : St → Option ρ) (t0 : Nat → Int) (i1 : Int) :
    ∀ (m : Nat) (j3 : Int) (g4 : Nat → Int), xloop (xcode (E76 N) ents spec_l02Turned.kp 0 N (cL (cK (cB (cK (cA (cB (cL (cK (cB (cA (cB (cB spec_l02Turned.bd)))))))))))) 2) spec_l02Turned.kp 0 2 m (spec_l02Turned.st1 t0 i1 j3 g4) (spec_l02Turned.k1g N L0 (spec_l02Turned.k0 N K)) = (spec_l02Turned.l1 N (fun d0 => K (.agg [⟨.u8, 512, d0⟩]) []) t0 i1 (fun o8 => (spec_l02Turned.k1g N L0 (spec_l02Turned.k0 N K)) (.exit 2) (spec_l02Turned.sx1_0 t0 i1 o8)) m j3 g4) := by
  intro m
  induction m with
  | zero => intros; rfl
  | succ m ih =>
    intro j3 g4
    refine (spec_l02Turned.b1_eq N K L0 (fun s => xloop (xcode (E76 N) ents spec_l02Turned.kp 0 N (cL (cK (cB (cK (cA (cB (cL (cK (cB (cA (cB (cB spec_l02Turned.bd)))))))))))) 2) spec_l02Turned.kp 0 2 m s (spec_l02Turned.k1g N L0 (spec_l02Turned.k0 N K))) t0 i1 j3 g4).trans ?_
    simp only [ih, spec_l02Turned.l2_eq, spec_l02Turned.a2_0_eq]
    kernel_rfl

theorem spec_l02Turned.l0_eq {ρ : Type} (N : Nat) (K : AV → Heap → Option ρ) (t0 : Nat → Int) :
    ∀ (m : Nat) (i1 : Int) (g2 : Nat → Int), xloop (xcode (E76 N) ents spec_l02Turned.kp 0 N (cL (cK (cB (cA (cB (cB spec_l02Turned.bd)))))) 0) spec_l02Turned.kp 0 0 m (spec_l02Turned.st0 t0 i1 g2) (spec_l02Turned.k0 N K) = (spec_l02Turned.l0 N (fun d0 => K (.agg [⟨.u8, 512, d0⟩]) []) t0 (fun o9 => (spec_l02Turned.k0 N K) (.exit 0) (spec_l02Turned.sx0_0 t0 o9)) m i1 g2) := by
  intro m
  induction m with
  | zero => intros; rfl
  | succ m ih =>
    intro i1 g2
    refine (spec_l02Turned.b0_eq N K (fun s => xloop (xcode (E76 N) ents spec_l02Turned.kp 0 N (cL (cK (cB (cA (cB (cB spec_l02Turned.bd)))))) 0) spec_l02Turned.kp 0 0 m s (spec_l02Turned.k0 N K)) t0 i1 g2).trans ?_
    simp only [ih, spec_l02Turned.l1_eq, spec_l02Turned.a1_0_eq]
    kernel_rfl

theorem spec_l02Turned.s_eq {ρ : Type} (N : Nat) (K : AV → Heap → Option ρ) (t0 : Nat → Int) :
    xbody (E76 N) ents spec_l02Turned.kp N Go.Proofs.Try.f72 spec_l02Turned.bd [.agg [⟨.u8, 512, t0⟩]] [] K = (spec_l02Turned.s N (fun d0 => K (.agg [⟨.u8, 512, d0⟩]) []) (fun i1 g2 => xloop (xcode (E76 N) ents spec_l02Turned.kp 0 N (cL (cK (cB (cA (cB (cB spec_l02Turned.bd)))))) 0) spec_l02Turned.kp 0 0 N (spec_l02Turned.st0 t0 i1 g2) (spec_l02Turned.k0 N K))) := by kernel_rfl

theorem spec_l02Turned.eq {ρ : Type} (N : Nat) (K : AV → Heap → Option ρ) (t0 : Nat → Int) :
    xbody (E76 N) ents spec_l02Turned.kp N Go.Proofs.Try.f72 spec_l02Turned.bd [.agg [⟨.u8, 512, t0⟩]] [] K = (spec_l02Turned N (fun d0 => K (.agg [⟨.u8, 512, d0⟩]) []) t0) := by
  refine (spec_l02Turned.s_eq N K t0).trans ?_
  simp only [spec_l02Turned.l0_eq, spec_l02Turned.a0_0_eq]
  kernel_rfl

noncomputable def spec_l02Turned.en (N : Nat) (ρ : Type) : List AV → Heap → (AV → Heap → Option ρ) → Option ρ
  | [.agg [⟨.u8, 512, t0⟩]], [], K => (spec_l02Turned N (fun d0 => K (.agg [⟨.u8, 512, d0⟩]) []) t0)
  | _, _, _ => none

theorem spec_l02Turned.en_ok (N : Nat) (hE : EnvOk (E76 N) ents) (ρ : Type) (args : List AV) (sh : Heap) (K : AV → Heap → Option ρ) (r : ρ) (h : spec_l02Turned.en N ρ args sh K = some r) : ∃ v sh', K v sh' = some r ∧ FnOk (E76 N).P 72 args sh v sh' := by
  unfold spec_l02Turned.en at h
  split at h
  · exact fn_ok hE (kp := spec_l02Turned.kp) (N := N) Go.Proofs.Try.func72 (c := spec_l02Turned.bd) (by kernel_rfl) ((spec_l02Turned.eq N _ _).trans h)
  · cases h

noncomputable def E77 (N : Nat) : Env := (E76 N).add 72 (spec_l02Turned.en N)

theorem E77_ok (N : Nat) : EnvOk (E77 N) ents := Env.add_ok (E76_ok N) (spec_l02Turned.en_ok N (E76_ok N))

noncomputable def spec_DualCoalgebra.kp : Keeps := ⟨[], []⟩

noncomputable def spec_DualCoalgebra.bd : Code := bodyOf Go.Proofs.Try.f38

noncomputable def spec_DualCoalgebra.fin {ρ : Type} (N : Nat) (K : AV → Heap → Option ρ) : XE → St → Option ρ := finK (E77 N) Go.Proofs.Try.f38 [] K

theorem spec_DualCoalgebra.eq {ρ : Type} (N : Nat) (K : AV → Heap → Option ρ) (a0 : Nat → Int) (a1 : Nat → Int) :
    xbody (E77 N) ents spec_DualCoalgebra.kp N Go.Proofs.Try.f38 spec_DualCoalgebra.bd [.agg [⟨.i64, 2, a0⟩, ⟨.u8, 520, a1⟩]] [] K = (spec_DualCoalgebra N (fun d0 d1 d2 => K (.tup [.agg [⟨.i64, 2, d0⟩, ⟨.u8, 520, d1⟩], .int .i64 (d2)]) []) a0 a1) := by kernel_rfl

noncomputable def spec_DualCoalgebra.en (N : Nat) (ρ : Type) : List AV → Heap → (AV → Heap → Option ρ) → Option ρ
  | [.agg [⟨.i64, 2, a0⟩, ⟨.u8, 520, a1⟩]], [], K => (spec_DualCoalgebra N (fun d0 d1 d2 => K (.tup [.agg [⟨.i64, 2, d0⟩, ⟨.u8, 520, d1⟩], .int .i64 (d2)]) []) a0 a1)
  | _, _, _ => none

theorem spec_DualCoalgebra.en_ok (N : Nat) (hE : EnvOk (E77 N) ents) (ρ : Type) (args : List AV) (sh : Heap) (K : AV → Heap → Option ρ) (r : ρ) (h : spec_DualCoalgebra.en N ρ args sh K = some r) : ∃ v sh', K v sh' = some r ∧ FnOk (E77 N).P 38 args sh v sh' := by
  unfold spec_DualCoalgebra.en at h
  split at h
  · exact fn_ok hE (kp := spec_DualCoalgebra.kp) (N := N) Go.Proofs.Try.func38 (c := spec_DualCoalgebra.bd) (by kernel_rfl) ((spec_DualCoalgebra.eq N _ _ _).trans h)
  · cases h

noncomputable def E78 (N : Nat) : Env := (E77 N).add 38 (spec_DualCoalgebra.en N)

theorem E78_ok (N : Nat) : EnvOk (E78 N) ents := Env.add_ok (E77_ok N) (spec_DualCoalgebra.en_ok N (E77_ok N))

noncomputable def impl_dualTable.kp : Keeps := ⟨[(0, [0, 2, 3, 8], 3), (2, [0, 2, 3, 4, 8, 11], 3), (4, [0, 2, 3, 4, 5, 8, 11, 14], 3)], [(0, [2, 3], 3), (2, [0, 2, 3, 8], 3), (4, [0, 2, 3, 4, 8, 11], 3)]⟩

noncomputable def impl_dualTable.bd : Code := bodyOf Go.Proofs.Try.f73

noncomputable def impl_dualTable.fin {ρ : Type} (N : Nat) (K : AV → Heap → Option ρ) (g0 : Nat → Int) : XE → St → Option ρ := finK (E78 N) Go.Proofs.Try.f73 [⟨false, .ints .u8 512 g0⟩] K

noncomputable def impl_dualTable.k0 {ρ : Type} (N : Nat) (K : AV → Heap → Option ρ) (g0 : Nat → Int) : XE → St → Option ρ := (blockK impl_dualTable.kp 1 0 (seqK (xcode (E78 N) ents impl_dualTable.kp 1 N (cB (cB (cB impl_dualTable.bd))) 0) (impl_dualTable.fin N K g0)))

theorem impl_dualTable.k0_mix {ρ : Type} (N : Nat) (K : AV → Heap → Option ρ) (g0 : Nat → Int) : mixK (impl_dualTable.fin N K g0 .ret) (impl_dualTable.k0 N K g0) = (impl_dualTable.k0 N K g0) := by
  funext e s; cases e <;> rfl

noncomputable def impl_dualTable.st0 (g0 : Nat → Int) (x1 : Int) (g2 : Nat → Int) : St := ⟨sl 36 [(0, .sptr [(0, 512)]), (2, .sptr [(1, 512)]), (3, .sptr [(2, 512)]), (8, .int .i64 (x1))], [⟨false, .ints .u8 512 g0⟩, ⟨true, .ints .u8 512 (fun _ => 0)⟩, ⟨true, .ints .u8 512 g2⟩]⟩

noncomputable def impl_dualTable.sx0_0 (g0 : Nat → Int) (o9 : Nat → Int) : St := ⟨sl 36 [(2, .sptr [(1, 512)]), (3, .sptr [(2, 512)])], [⟨false, .ints .u8 512 g0⟩, ⟨true, .ints .u8 512 (fun _ => 0)⟩, ⟨true, .ints .u8 512 o9⟩]⟩

noncomputable def impl_dualTable.k1g {ρ : Type} (N : Nat) (L0 : St → Option ρ) (kv : XE → St → Option ρ) : XE → St → Option ρ := (blockK impl_dualTable.kp 1 2 (blockK impl_dualTable.kp 1 1 (seqK (xcode (E78 N) ents impl_dualTable.kp 1 N (cB (cB (cB (cL (cK (cB (cA (cB (cB impl_dualTable.bd))))))))) 0) (roundK impl_dualTable.kp 1 0 L0 kv))))

theorem impl_dualTable.k1_mix {ρ : Type} (N : Nat) (K : AV → Heap → Option ρ) (L0 : St → Option ρ) (g0 : Nat → Int) : mixK (impl_dualTable.fin N K g0 .ret) (impl_dualTable.k1g N L0 (impl_dualTable.k0 N K g0)) = (impl_dualTable.k1g N L0 (impl_dualTable.k0 N K g0)) := by
  funext e s; cases e <;> rfl

noncomputable def impl_dualTable.st1 (g0 : Nat → Int) (x1 : Int) (x3 : Int) (g4 : Nat → Int) : St := ⟨sl 36 [(0, .sptr [(0, 512)]), (2, .sptr [(1, 512)]), (3, .sptr [(2, 512)]), (4, .int .i64 (x1)), (8, .int .i64 (x1)), (11, .int .i64 (x3))], [⟨false, .ints .u8 512 g0⟩, ⟨true, .ints .u8 512 (fun _ => 0)⟩, ⟨true, .ints .u8 512 g4⟩]⟩

noncomputable def impl_dualTable.sx1_0 (g0 : Nat → Int) (x1 : Int) (o8 : Nat → Int) : St := ⟨sl 36 [(0, .sptr [(0, 512)]), (2, .sptr [(1, 512)]), (3, .sptr [(2, 512)]), (8, .int .i64 (x1))], [⟨false, .ints .u8 512 g0⟩, ⟨true, .ints .u8 512 (fun _ => 0)⟩, ⟨true, .ints .u8 512 o8⟩]⟩

noncomputable def impl_dualTable.k2g {ρ : Type} (N : Nat) (L1 : St → Option ρ) (kv : XE → St → Option ρ) : XE → St → Option ρ := (blockK impl_dualTable.kp 1 4 (blockK impl_dualTable.kp 1 3 (seqK (xcode (E78 N) ents impl_dualTable.kp 1 N (cB (cB (cB (cL (cK (cB (cB (cK (cA (cB (cB (cL (cK (cB (cA (cB (cB impl_dualTable.bd))))))))))))))))) 2) (roundK impl_dualTable.kp 1 2 L1 kv))))

theorem impl_dualTable.k2_mix {ρ : Type} (N : Nat) (K : AV → Heap → Option ρ) (L0 : St → Option ρ) (L1 : St → Option ρ) (g0 : Nat → Int) : mixK (impl_dualTable.fin N K g0 .ret) (impl_dualTable.k2g N L1 (impl_dualTable.k1g N L0 (impl_dualTable.k0 N K g0))) = (impl_dualTable.k2g N L1 (impl_dualTable.k1g N L0 (impl_dualTable.k0 N K g0))) := by
  funext e s; cases e <;> rfl

noncomputable def impl_dualTable.st2 (g0 : Nat → Int) (x1 : Int) (x3 : Int) (x5 : Int) (g6 : Nat → Int) : St := ⟨sl 36 [(0, .sptr [(0, 512)]), (2, .sptr [(1, 512)]), (3, .sptr [(2, 512)]), (4, .int .i64 (x1)), (5, .int .i64 (x3)), (8, .int .i64 (x1)), (11, .int .i64 (x3)), (14, .int .i64 (x5))], [⟨false, .ints .u8 512 g0⟩, ⟨true, .ints .u8 512 (fun _ => 0)⟩, ⟨true, .ints .u8 512 g6⟩]⟩

noncomputable def impl_dualTable.sx2_0 (g0 : Nat → Int) (x1 : Int) (x3 : Int) (o7 : Nat → Int) : St := ⟨sl 36 [(0, .sptr [(0, 512)]), (2, .sptr [(1, 512)]), (3, .sptr [(2, 512)]), (4, .int .i64 (x1)), (8, .int .i64 (x1)), (11, .int .i64 (x3))], [⟨false, .ints .u8 512 g0⟩, ⟨true, .ints .u8 512 (fun _ => 0)⟩, ⟨true, .ints .u8 512 o7⟩]⟩

theorem impl_dualTable.b2_gen {ρ : Type} (N : Nat) (K : AV → Heap → Option ρ) (L2 : St → Option ρ) (kv : XE → St → Option ρ) (g0 : Nat → Int) (x1 : Int) (x3 : Int) (x5 : Int) (g6 : Nat → Int) :
    xcode (E78 N) ents impl_dualTable.kp 1 N (cL (cK (cB (cB (cK (cA (cB (cB (cL (cK (cB (cB (cK (cA (cB (cB (cL (cK (cB (cA (cB (cB impl_dualTable.bd)))))))))))))))))))))) 4 (impl_dualTable.st2 g0 x1 x3 x5 g6) (roundK impl_dualTable.kp 1 4 L2 (mixK (impl_dualTable.fin N K g0 .ret) kv)) = (impl_dualTable.b2 N (fun d0 => K (.agg [⟨.u8, 512, d0⟩]) [⟨false, .ints .u8 512 g0⟩]) (fun x5 g6 => L2 (impl_dualTable.st2 g0 x1 x3 x5 g6)) (fun o7 => kv (.exit 4) (impl_dualTable.sx2_0 g0 x1 x3 o7)) g0 x1 x3 x5 g6) := by kernel_rfl

theorem impl_dualTable.b2_eq {ρ : Type} (N : Nat) (K : AV → Heap → Option ρ) (L0 : St → Option ρ) (L1 : St → Option ρ) (L2 : St → Option ρ) (g0 : Nat → Int) (x1 : Int) (x3 : Int) (x5 : Int) (g6 : Nat → Int) :
    xcode (E78 N) ents impl_dualTable.kp 1 N (cL (cK (cB (cB (cK (cA (cB (cB (cL (cK (cB (cB (cK (cA (cB (cB (cL (cK (cB (cA (cB (cB impl_dualTable.bd)))))))))))))))))))))) 4 (impl_dualTable.st2 g0 x1 x3 x5 g6) (roundK impl_dualTable.kp 1 4 L2 (impl_dualTable.k2g N L1 (impl_dualTable.k1g N L0 (impl_dualTable.k0 N K g0)))) = (impl_dualTable.b2 N (fun d0 => K (.agg [⟨.u8, 512, d0⟩]) [⟨false, .ints .u8 512 g0⟩]) (fun x5 g6 => L2 (impl_dualTable.st2 g0 x1 x3 x5 g6)) (fun o7 => (impl_dualTable.k2g N L1 (impl_dualTable.k1g N L0 (impl_dualTable.k0 N K g0))) (.exit 4) (impl_dualTable.sx2_0 g0 x1 x3 o7)) g0 x1 x3 x5 g6) := by
  have h := impl_dualTable.b2_gen N K L2 (impl_dualTable.k2g N L1 (impl_dualTable.k1g N L0 (impl_dualTable.k0 N K g0))) g0 x1 x3 x5 g6
  rw [impl_dualTable.k2_mix] at h
  exact h

theorem impl_dualTable.a2_0_gen {ρ : Type} (N : Nat) (K : AV → Heap → Option ρ) (L1 : St → Option ρ) (kv : XE → St → Option ρ) (g0 : Nat → Int) (x1 : Int) (x3 : Int) (o7 : Nat → Int) :
    (impl_dualTable.k2g N L1 (mixK (impl_dualTable.fin N K g0 .ret) kv)) (.exit 4) (impl_dualTable.sx2_0 g0 x1 x3 o7) = (impl_dualTable.a2_0 N (fun d0 => K (.agg [⟨.u8, 512, d0⟩]) [⟨false, .ints .u8 512 g0⟩]) (fun x3 g4 => L1 (impl_dualTable.st1 g0 x1 x3 g4)) (fun o8 => kv (.exit 2) (impl_dualTable.sx1_0 g0 x1 o8)) x3 o7) := by kernel_rfl

theorem impl_dualTable.a2_0_eq {ρ : Type} (N : Nat) (K : AV → Heap → Option ρ) (L0 : St → Option ρ) (L1 : St → Option ρ) (g0 : Nat → Int) (x1 : Int) (x3 : Int) (o7 : Nat → Int) :
    (impl_dualTable.k2g N L1 (impl_dualTable.k1g N L0 (impl_dualTable.k0 N K g0))) (.exit 4) (impl_dualTable.sx2_0 g0 x1 x3 o7) = (impl_dualTable.a2_0 N (fun d0 => K (.agg [⟨.u8, 512, d0⟩]) [⟨false, .ints .u8 512 g0⟩]) (fun x3 g4 => L1 (impl_dualTable.st1 g0 x1 x3 g4)) (fun o8 => (impl_dualTable.k1g N L0 (impl_dualTable.k0 N K g0)) (.exit 2) (impl_dualTable.sx1_0 g0 x1 o8)) x3 o7) := by
  have h := impl_dualTable.a2_0_gen N K L1 (impl_dualTable.k1g N L0 (impl_dualTable.k0 N K g0)) g0 x1 x3 o7
  rw [impl_dualTable.k1_mix] at h
  exact h

theorem impl_dualTable.b1_gen {ρ : Type} (N : Nat) (K : AV → Heap → Option ρ) (L1 : St → Option ρ) (kv : XE → St → Option ρ) (g0 : Nat → Int) (x1 : Int) (x3 : Int) (g4 : Nat → Int) :
    xcode (E78 N) ents impl_dualTable.kp 1 N (cL (cK (cB (cB (cK (cA (cB (cB (cL (cK (cB (cA (cB (cB impl_dualTable.bd)))))))))))))) 2 (impl_dualTable.st1 g0 x1 x3 g4) (roundK impl_dualTable.kp 1 2 L1 (mixK (impl_dualTable.fin N K g0 .ret) kv)) = (impl_dualTable.b1 N (fun d0 => K (.agg [⟨.u8, 512, d0⟩]) [⟨false, .ints .u8 512 g0⟩]) (fun x5 g6 => xloop (xcode (E78 N) ents impl_dualTable.kp 1 N (cL (cK (cB (cB (cK (cA (cB (cB (cL (cK (cB (cB (cK (cA (cB (cB (cL (cK (cB (cA (cB (cB impl_dualTable.bd)))))))))))))))))))))) 4) impl_dualTable.kp 1 4 N (impl_dualTable.st2 g0 x1 x3 x5 g6) (impl_dualTable.k2g N L1 (mixK (impl_dualTable.fin N K g0 .ret) kv))) (fun x3 g4 => L1 (impl_dualTable.st1 g0 x1 x3 g4)) (fun o8 => kv (.exit 2) (impl_dualTable.sx1_0 g0 x1 o8)) x3 g4) := by kernel_rfl

theorem impl_dualTable.b1_eq {ρ : Type} (N : Nat) (K : AV → Heap → Option ρ) (L0 : St → Option ρ) (L1 : St → Option ρ) (g0 : Nat → Int) (x1 : Int) (x3 : Int) (g4 : Nat → Int) :
    xcode (E78 N) ents impl_dualTable.kp 1 N (cL (cK (cB (cB (cK (cA (cB (cB (cL (cK (cB (cA (cB (cB impl_dualTable.bd)))))))))))))) 2 (impl_dualTable.st1 g0 x1 x3 g4) (roundK impl_dualTable.kp 1 2 L1 (impl_dualTable.k1g N L0 (impl_dualTable.k0 N K g0))) = (impl_dualTable.b1 N (fun d0 => K (.agg [⟨.u8, 512, d0⟩]) [⟨false, .ints .u8 512 g0⟩]) (fun x5 g6 => xloop (xcode (E78 N) ents impl_dualTable.kp 1 N (cL (cK (cB (cB (cK (cA (cB (cB (cL (cK (cB (cB (cK (cA (cB (cB (cL (cK (cB (cA (cB (cB impl_dualTable.bd)))))))))))))))))))))) 4) impl_dualTable.kp 1 4 N (impl_dualTable.st2 g0 x1 x3 x5 g6) (impl_dualTable.k2g N L1 (impl_dualTable.k1g N L0 (impl_dualTable.k0 N K g0)))) (fun x3 g4 => L1 (impl_dualTable.st1 g0 x1 x3 g4)) (fun o8 => (impl_dualTable.k1g N L0 (impl_dualTable.k0 N K g0)) (.exit 2) (impl_dualTable.sx1_0 g0 x1 o8)) x3 g4) := by
  have h := impl_dualTable.b1_gen N K L1 (impl_dualTable.k1g N L0 (impl_dualTable.k0 N K g0)) g0 x1 x3 g4
  rw [impl_dualTable.k1_mix] at h
  exact h

theorem impl_dualTable.a1_0_gen {ρ : Type} (N : Nat) (K : AV → Heap → Option ρ) (L0 : St → Option ρ) (kv : XE → St → Option ρ) (g0 : Nat → Int) (x1 : Int) (o8 : Nat → Int) :
    (impl_dualTable.k1g N L0 (mixK (impl_dualTable.fin N K g0 .ret) kv)) (.exit 2) (impl_dualTable.sx1_0 g0 x1 o8) = (impl_dualTable.a1_0 N (fun d0 => K (.agg [⟨.u8, 512, d0⟩]) [⟨false, .ints .u8 512 g0⟩]) (fun x1 g2 => L0 (impl_dualTable.st0 g0 x1 g2)) (fun o9 => kv (.exit 0) (impl_dualTable.sx0_0 g0 o9)) x1 o8) := by kernel_rfl

theorem impl_dualTable.a1_0_eq {ρ : Type} (N : Nat) (K : AV → Heap → Option ρ) (L0 : St → Option ρ) (g0 : Nat → Int) (x1 : Int) (o8 : Nat → Int) :
    (impl_dualTable.k1g N L0 (impl_dualTable.k0 N K g0)) (.exit 2) (impl_dualTable.sx1_0 g0 x1 o8) = (impl_dualTable.a1_0 N (fun d0 => K (.agg [⟨.u8, 512, d0⟩]) [⟨false, .ints .u8 512 g0⟩]) (fun x1 g2 => L0 (impl_dualTable.st0 g0 x1 g2)) (fun o9 => (impl_dualTable.k0 N K g0) (.exit 0) (impl_dualTable.sx0_0 g0 o9)) x1 o8) := by
  have h := impl_dualTable.a1_0_gen N K L0 (impl_dualTable.k0 N K g0) g0 x1 o8
  rw [impl_dualTable.k0_mix] at h
  exact h

theorem impl_dualTable.b0_gen {ρ : Type} (N : Nat) (K : AV → Heap → Option ρ) (L0 : St → Option ρ) (kv : XE → St → Option ρ) (g0 : Nat → Int) (x1 : Int) (g2 : Nat → Int) :
    xcode (E78 N) ents impl_dualTable.kp 1 N (cL (cK (cB (cA (cB (cB impl_dualTable.bd)))))) 0 (impl_dualTable.st0 g0 x1 g2) (roundK impl_dualTable.kp 1 0 L0 (mixK (impl_dualTable.fin N K g0 .ret) kv)) = (impl_dualTable.b0 N (fun d0 => K (.agg [⟨.u8, 512, d0⟩]) [⟨false, .ints .u8 512 g0⟩]) (fun x3 g4 => xloop (xcode (E78 N) ents impl_dualTable.kp 1 N (cL (cK (cB (cB (cK (cA (cB (cB (cL (cK (cB (cA (cB (cB impl_dualTable.bd)))))))))))))) 2) impl_dualTable.kp 1 2 N (impl_dualTable.st1 g0 x1 x3 g4) (impl_dualTable.k1g N L0 (mixK (impl_dualTable.fin N K g0 .ret) kv))) (fun x1 g2 => L0 (impl_dualTable.st0 g0 x1 g2)) (fun o9 => kv (.exit 0) (impl_dualTable.sx0_0 g0 o9)) x1 g2) := by kernel_rfl

theorem impl_dualTable.b0_eq {ρ : Type} (N : Nat) (K : AV → Heap → Option ρ) (L0 : St → Option ρ) (g0 : Nat → Int) (x1 : Int) (g2 : Nat → Int) :
    xcode (E78 N) ents impl_dualTable.kp 1 N (cL (cK (cB (cA (cB (cB impl_dualTable.bd)))))) 0 (impl_dualTable.st0 g0 x1 g2) (roundK impl_dualTable.kp 1 0 L0 (impl_dualTable.k0 N K g0)) = (impl_dualTable.b0 N (fun d0 => K (.agg [⟨.u8, 512, d0⟩]) [⟨false, .ints .u8 512 g0⟩]) (fun x3 g4 => xloop (xcode (E78 N) ents impl_dualTable.kp 1 N (cL (cK (cB (cB (cK (cA (cB (cB (cL (cK (cB (cA (cB (cB impl_dualTable.bd)))))))))))))) 2) impl_dualTable.kp 1 2 N (impl_dualTable.st1 g0 x1 x3 g4) (impl_dualTable.k1g N L0 (impl_dualTable.k0 N K g0))) (fun x1 g2 => L0 (impl_dualTable.st0 g0 x1 g2)) (fun o9 => (impl_dualTable.k0 N K g0) (.exit 0) (impl_dualTable.sx0_0 g0 o9)) x1 g2) := by
  have h := impl_dualTable.b0_gen N K L0 (impl_dualTable.k0 N K g0) g0 x1 g2
  rw [impl_dualTable.k0_mix] at h
  exact h

theorem impl_dualTable.a0_0_eq {ρ : Type} (N : Nat) (K : AV → Heap → Option ρ) (g0 : Nat → Int) (o9 : Nat → Int) :
    (impl_dualTable.k0 N K g0) (.exit 0) (impl_dualTable.sx0_0 g0 o9) = (impl_dualTable.a0_0 N (fun d0 => K (.agg [⟨.u8, 512, d0⟩]) [⟨false, .ints .u8 512 g0⟩]) o9) := by kernel_rfl

theorem impl_dualTable.l2_eq {ρ : Type} (N : Nat) (K : AV → Heap → Option ρ) (L0 : St → Option ρ) (L1 : St → Option ρ) (g0 : Nat → Int) (x1 : Int) (x3 : Int) :
    ∀ (m : Nat) (x5 : Int) (g6 : Nat → Int), xloop (xcode (E78 N) ents impl_dualTable.kp 1 N (cL (cK (cB (cB (cK (cA (cB (cB (cL (cK (cB (cB (cK (cA (cB (cB (cL (cK (cB (cA (cB (cB impl_dualTable.bd)))))))))))))))))))))) 4) impl_dualTable.kp 1 4 m (impl_dualTable.st2 g0 x1 x3 x5 g6) (impl_dualTable.k2g N L1 (impl_dualTable.k1g N L0 (impl_dualTable.k0 N K g0))) = (impl_dualTable.l2 N (fun d0 => K (.agg [⟨.u8, 512, d0⟩]) [⟨false, .ints .u8 512 g0⟩]) g0 x1 x3 (fun o7 => (impl_dualTable.k2g N L1 (impl_dualTable.k1g N L0 (impl_dualTable.k0 N K g0))) (.exit 4) (impl_dualTable.sx2_0 g0 x1 x3 o7)) m x5 g6) := by
  intro m
  induction m with
  | zero => intros; rfl
  | succ m ih =>
    intro x5 g6
    refine (impl_dualTable.b2_eq N K L0 L1 (fun s => xloop (xcode (E78 N) ents impl_dualTable.kp 1 N (cL (cK (cB (cB (cK (cA (cB (cB (cL (cK (cB (cB (cK (cA (cB (cB (cL (cK (cB (cA (cB (cB impl_dualTable.bd)))))))))))))))))))))) 4) impl_dualTable.kp 1 4 m s (impl_dualTable.k2g N L1 (impl_dualTable.k1g N L0 (impl_dualTable.k0 N K g0)))) g0 x1 x3 x5 g6).trans ?_
    simp only [ih]
    kernel_rfl

theorem impl_dualTable.l1_eq {ρ : Type} (N : Nat) (K : AV → Heap → Option ρ) (L0 : St → Option ρ) (g0 : Nat → Int) (x1 : Int) :
    ∀ (m : Nat) (x3 : Int) (g4 : Nat → Int), xloop (xcode (E78 N) ents impl_dualTable.kp 1 N (cL (cK (cB (cB (cK (cA (cB (cB (cL (cK (cB (cA (cB (cB impl_dualTable.bd)))))))))))))) 2) impl_dualTable.kp 1 2 m (impl_dualTable.st1 g0 x1 x3 g4) (impl_dualTable.k1g N L0 (impl_dualTable.k0 N K g0)) = (impl_dualTable.l1 N (fun d0 => K (.agg [⟨.u8, 512, d0⟩]) [⟨false, .ints .u8 512 g0⟩]) g0 x1 (fun o8 => (impl_dualTable.k1g N L0 (impl_dualTable.k0 N K g0)) (.exit 2) (impl_dualTable.sx1_0 g0 x1 o8)) m x3 g4) := by
  intro m
  induction m with
  | zero => intros; rfl
  | succ m ih =>
    intro x3 g4
    refine (impl_dualTable.b1_eq N K L0 (fun s => xloop (xcode (E78 N) ents impl_dualTable.kp 1 N (cL (cK (cB (cB (cK (cA (cB (cB (cL (cK (cB (cA (cB (cB impl_dualTable.bd)))))))))))))) 2) impl_dualTable.kp 1 2 m s (impl_dualTable.k1g N L0 (impl_dualTable.k0 N K g0))) g0 x1 x3 g4).trans ?_
    simp only [ih, impl_dualTable.l2_eq, impl_dualTable.a2_0_eq]
    kernel_rfl

theorem impl_dualTable.l0_eq {ρ : Type} (N : Nat) (K : AV → Heap → Option ρ) (g0 : Nat → Int) :
    ∀ (m : Nat) (x1 : Int) (g2 : Nat → Int), xloop (xcode (E78 N) ents impl_dualTable.kp 1 N (cL (cK (cB (cA (cB (cB impl_dualTable.bd)))))) 0) impl_dualTable.kp 1 0 m (impl_dualTable.st0 g0 x1 g2) (impl_dualTable.k0 N K g0) = (impl_dualTable.l0 N (fun d0 => K (.agg [⟨.u8, 512, d0⟩]) [⟨false, .ints .u8 512 g0⟩]) g0 (fun o9 => (impl_dualTable.k0 N K g0) (.exit 0) (impl_dualTable.sx0_0 g0 o9)) m x1 g2) := by
  intro m
  induction m with
  | zero => intros; rfl
  | succ m ih =>
    intro x1 g2
    refine (impl_dualTable.b0_eq N K (fun s => xloop (xcode (E78 N) ents impl_dualTable.kp 1 N (cL (cK (cB (cA (cB (cB impl_dualTable.bd)))))) 0) impl_dualTable.kp 1 0 m s (impl_dualTable.k0 N K g0)) g0 x1 g2).trans ?_
    simp only [ih, impl_dualTable.l1_eq, impl_dualTable.a1_0_eq]
    kernel_rfl

theorem impl_dualTable.s_eq {ρ : Type} (N : Nat) (K : AV → Heap → Option ρ) (g0 : Nat → Int) :
    xbody (E78 N) ents impl_dualTable.kp N Go.Proofs.Try.f73 impl_dualTable.bd [.sptr [(0, 512)]] [⟨false, .ints .u8 512 g0⟩] K = (impl_dualTable.s N (fun d0 => K (.agg [⟨.u8, 512, d0⟩]) [⟨false, .ints .u8 512 g0⟩]) (fun x1 g2 => xloop (xcode (E78 N) ents impl_dualTable.kp 1 N (cL (cK (cB (cA (cB (cB impl_dualTable.bd)))))) 0) impl_dualTable.kp 1 0 N (impl_dualTable.st0 g0 x1 g2) (impl_dualTable.k0 N K g0))) := by kernel_rfl

theorem impl_dualTable.eq {ρ : Type} (N : Nat) (K : AV → Heap → Option ρ) (g0 : Nat → Int) :
    xbody (E78 N) ents impl_dualTable.kp N Go.Proofs.Try.f73 impl_dualTable.bd [.sptr [(0, 512)]] [⟨false, .ints .u8 512 g0⟩] K = (impl_dualTable N (fun d0 => K (.agg [⟨.u8, 512, d0⟩]) [⟨false, .ints .u8 512 g0⟩]) g0) := by
  refine (impl_dualTable.s_eq N K g0).trans ?_
  simp only [impl_dualTable.l0_eq, impl_dualTable.a0_0_eq]
  kernel_rfl

noncomputable def impl_dualTable.en (N : Nat) (ρ : Type) : List AV → Heap → (AV → Heap → Option ρ) → Option ρ
  | [.sptr [(0, 512)]], [⟨false, .ints .u8 512 g0⟩], K => (impl_dualTable N (fun d0 => K (.agg [⟨.u8, 512, d0⟩]) [⟨false, .ints .u8 512 g0⟩]) g0)
  | _, _, _ => none

theorem impl_dualTable.en_ok (N : Nat) (hE : EnvOk (E78 N) ents) (ρ : Type) (args : List AV) (sh : Heap) (K : AV → Heap → Option ρ) (r : ρ) (h : impl_dualTable.en N ρ args sh K = some r) : ∃ v sh', K v sh' = some r ∧ FnOk (E78 N).P 73 args sh v sh' := by
  unfold impl_dualTable.en at h
  split at h
  · exact fn_ok hE (kp := impl_dualTable.kp) (N := N) Go.Proofs.Try.func73 (c := impl_dualTable.bd) (by kernel_rfl) ((impl_dualTable.eq N _ _).trans h)
  · cases h

noncomputable def E79 (N : Nat) : Env := (E78 N).add 73 (impl_dualTable.en N)

theorem E79_ok (N : Nat) : EnvOk (E79 N) ents := Env.add_ok (E78_ok N) (impl_dualTable.en_ok N (E78_ok N))

noncomputable def impl_DualCoalgebra.kp : Keeps := ⟨[], []⟩

noncomputable def impl_DualCoalgebra.bd : Code := bodyOf Go.Proofs.Try.f39

noncomputable def impl_DualCoalgebra.fin {ρ : Type} (N : Nat) (K : AV → Heap → Option ρ) : XE → St → Option ρ := finK (E79 N) Go.Proofs.Try.f39 [] K

theorem impl_DualCoalgebra.eq {ρ : Type} (N : Nat) (K : AV → Heap → Option ρ) (a0 : Nat → Int) (a1 : Nat → Int) :
    xbody (E79 N) ents impl_DualCoalgebra.kp N Go.Proofs.Try.f39 impl_DualCoalgebra.bd [.agg [⟨.i64, 2, a0⟩, ⟨.u8, 520, a1⟩]] [] K = (impl_DualCoalgebra N (fun d0 d1 d2 => K (.tup [.agg [⟨.i64, 2, d0⟩, ⟨.u8, 520, d1⟩], .int .i64 (d2)]) []) a0 a1) := by kernel_rfl

noncomputable def impl_DualCoalgebra.en (N : Nat) (ρ : Type) : List AV → Heap → (AV → Heap → Option ρ) → Option ρ
  | [.agg [⟨.i64, 2, a0⟩, ⟨.u8, 520, a1⟩]], [], K => (impl_DualCoalgebra N (fun d0 d1 d2 => K (.tup [.agg [⟨.i64, 2, d0⟩, ⟨.u8, 520, d1⟩], .int .i64 (d2)]) []) a0 a1)
  | _, _, _ => none

theorem impl_DualCoalgebra.en_ok (N : Nat) (hE : EnvOk (E79 N) ents) (ρ : Type) (args : List AV) (sh : Heap) (K : AV → Heap → Option ρ) (r : ρ) (h : impl_DualCoalgebra.en N ρ args sh K = some r) : ∃ v sh', K v sh' = some r ∧ FnOk (E79 N).P 39 args sh v sh' := by
  unfold impl_DualCoalgebra.en at h
  split at h
  · exact fn_ok hE (kp := impl_DualCoalgebra.kp) (N := N) Go.Proofs.Try.func39 (c := impl_DualCoalgebra.bd) (by kernel_rfl) ((impl_DualCoalgebra.eq N _ _ _).trans h)
  · cases h

noncomputable def E80 (N : Nat) : Env := (E79 N).add 39 (impl_DualCoalgebra.en N)

theorem E80_ok (N : Nat) : EnvOk (E80 N) ents := Env.add_ok (E79_ok N) (impl_DualCoalgebra.en_ok N (E79_ok N))

noncomputable def laws_eqCoalgebra.kp : Keeps := ⟨[], []⟩

noncomputable def laws_eqCoalgebra.bd : Code := bodyOf Go.Proofs.Try.f40

noncomputable def laws_eqCoalgebra.fin {ρ : Type} (N : Nat) (K : AV → Heap → Option ρ) : XE → St → Option ρ := finK (E80 N) Go.Proofs.Try.f40 [] K

theorem laws_eqCoalgebra.eq {ρ : Type} (N : Nat) (K : AV → Heap → Option ρ) (a0 : Nat → Int) (a1 : Nat → Int) (b2 : Nat → Int) (b3 : Nat → Int) :
    xbody (E80 N) ents laws_eqCoalgebra.kp N Go.Proofs.Try.f40 laws_eqCoalgebra.bd [.agg [⟨.i64, 2, a0⟩, ⟨.u8, 520, a1⟩], .agg [⟨.i64, 2, b2⟩, ⟨.u8, 520, b3⟩]] [] K = (laws_eqCoalgebra N (fun d0 => K (.bool (d0)) []) a0 a1 b2 b3) := by kernel_rfl

noncomputable def laws_eqCoalgebra.en (N : Nat) (ρ : Type) : List AV → Heap → (AV → Heap → Option ρ) → Option ρ
  | [.agg [⟨.i64, 2, a0⟩, ⟨.u8, 520, a1⟩], .agg [⟨.i64, 2, b2⟩, ⟨.u8, 520, b3⟩]], [], K => (laws_eqCoalgebra N (fun d0 => K (.bool (d0)) []) a0 a1 b2 b3)
  | _, _, _ => none

theorem laws_eqCoalgebra.en_ok (N : Nat) (hE : EnvOk (E80 N) ents) (ρ : Type) (args : List AV) (sh : Heap) (K : AV → Heap → Option ρ) (r : ρ) (h : laws_eqCoalgebra.en N ρ args sh K = some r) : ∃ v sh', K v sh' = some r ∧ FnOk (E80 N).P 40 args sh v sh' := by
  unfold laws_eqCoalgebra.en at h
  split at h
  · exact fn_ok hE (kp := laws_eqCoalgebra.kp) (N := N) Go.Proofs.Try.func40 (c := laws_eqCoalgebra.bd) (by kernel_rfl) ((laws_eqCoalgebra.eq N _ _ _ _ _).trans h)
  · cases h

noncomputable def E81 (N : Nat) : Env := (E80 N).add 40 (laws_eqCoalgebra.en N)

theorem E81_ok (N : Nat) : EnvOk (E81 N) ents := Env.add_ok (E80_ok N) (laws_eqCoalgebra.en_ok N (E80_ok N))

noncomputable def laws_FnExactDualCoalgebra.kp : Keeps := ⟨[], []⟩

noncomputable def laws_FnExactDualCoalgebra.bd : Code := bodyOf Go.Proofs.Try.f11

noncomputable def laws_FnExactDualCoalgebra.fin {ρ : Type} (N : Nat) (K : AV → Heap → Option ρ) : XE → St → Option ρ := finK (E81 N) Go.Proofs.Try.f11 [] K

theorem laws_FnExactDualCoalgebra.eq {ρ : Type} (N : Nat) (K : AV → Heap → Option ρ) (aA0 : Nat → Int) (aA1 : Nat → Int) :
    xbody (E81 N) ents laws_FnExactDualCoalgebra.kp N Go.Proofs.Try.f11 laws_FnExactDualCoalgebra.bd [.agg [⟨.i64, 2, aA0⟩, ⟨.u8, 520, aA1⟩]] [] K = (laws_FnExactDualCoalgebra N (fun d0 => K (.bool (d0)) []) aA0 aA1) := by kernel_rfl

noncomputable def laws_FnExactDualCoalgebra.en (N : Nat) (ρ : Type) : List AV → Heap → (AV → Heap → Option ρ) → Option ρ
  | [.agg [⟨.i64, 2, aA0⟩, ⟨.u8, 520, aA1⟩]], [], K => (laws_FnExactDualCoalgebra N (fun d0 => K (.bool (d0)) []) aA0 aA1)
  | _, _, _ => none

theorem laws_FnExactDualCoalgebra.en_ok (N : Nat) (hE : EnvOk (E81 N) ents) (ρ : Type) (args : List AV) (sh : Heap) (K : AV → Heap → Option ρ) (r : ρ) (h : laws_FnExactDualCoalgebra.en N ρ args sh K = some r) : ∃ v sh', K v sh' = some r ∧ FnOk (E81 N).P 11 args sh v sh' := by
  unfold laws_FnExactDualCoalgebra.en at h
  split at h
  · exact fn_ok hE (kp := laws_FnExactDualCoalgebra.kp) (N := N) Go.Proofs.Try.func11 (c := laws_FnExactDualCoalgebra.bd) (by kernel_rfl) ((laws_FnExactDualCoalgebra.eq N _ _ _).trans h)
  · cases h

noncomputable def E82 (N : Nat) : Env := (E81 N).add 11 (laws_FnExactDualCoalgebra.en N)

theorem E82_ok (N : Nat) : EnvOk (E82 N) ents := Env.add_ok (E81_ok N) (laws_FnExactDualCoalgebra.en_ok N (E81_ok N))

noncomputable def spec_ProductAlgebra.kp : Keeps := ⟨[(1, [2, 3, 4, 6, 7], 6), (3, [2, 3, 4, 6, 7, 8], 6), (5, [2, 3, 4, 6, 7, 8, 9], 6)], [(1, [2, 3, 4, 6], 6), (3, [2, 3, 4, 6, 7], 6), (5, [2, 3, 4, 6, 7, 8], 6)]⟩

noncomputable def spec_ProductAlgebra.bd : Code := bodyOf Go.Proofs.Try.f41

noncomputable def spec_ProductAlgebra.fin {ρ : Type} (N : Nat) (K : AV → Heap → Option ρ) : XE → St → Option ρ := finK (E82 N) Go.Proofs.Try.f41 [] K

noncomputable def spec_ProductAlgebra.k0 {ρ : Type} (N : Nat) (K : AV → Heap → Option ρ) : XE → St → Option ρ := (blockK spec_ProductAlgebra.kp 0 1 (seqK (xcode (E82 N) ents spec_ProductAlgebra.kp 0 N (cB (cB (cB (cB spec_ProductAlgebra.bd)))) 0) (spec_ProductAlgebra.fin N K)))

theorem spec_ProductAlgebra.k0_mix {ρ : Type} (N : Nat) (K : AV → Heap → Option ρ) : mixK (spec_ProductAlgebra.fin N K .ret) (spec_ProductAlgebra.k0 N K) = (spec_ProductAlgebra.k0 N K) := by
  funext e s; cases e <;> rfl

noncomputable def spec_ProductAlgebra.st0 (a0 : Nat → Int) (b2 : Nat → Int) (b3 : Nat → Int) (i6 : Int) (g7 : Nat → Int) : St := ⟨sl 91 [(2, .sptr [(0, 2), (1, 520)]), (3, .sptr [(2, 2), (3, 520)]), (4, .sptr [(4, 2), (5, 520)]), (6, .int .i64 ((a0 1))), (7, .int .i64 (i6))], [⟨true, .ints .i64 2 a0⟩, ⟨true, .ints .u8 520 g7⟩, ⟨true, .ints .i64 2 b2⟩, ⟨true, .ints .u8 520 b3⟩, ⟨true, .ints .i64 2 (fun _ => 0)⟩, ⟨true, .ints .u8 520 (fun _ => 0)⟩]⟩

noncomputable def spec_ProductAlgebra.sx0_0 (a0 : Nat → Int) (b2 : Nat → Int) (b3 : Nat → Int) (o14 : Nat → Int) : St := ⟨sl 91 [(2, .sptr [(0, 2), (1, 520)]), (3, .sptr [(2, 2), (3, 520)]), (4, .sptr [(4, 2), (5, 520)]), (6, .int .i64 ((a0 1)))], [⟨true, .ints .i64 2 a0⟩, ⟨true, .ints .u8 520 o14⟩, ⟨true, .ints .i64 2 b2⟩, ⟨true, .ints .u8 520 b3⟩, ⟨true, .ints .i64 2 (fun _ => 0)⟩, ⟨true, .ints .u8 520 (fun _ => 0)⟩]⟩

noncomputable def spec_ProductAlgebra.k1g {ρ : Type} (N : Nat) (L0 : St → Option ρ) (kv : XE → St → Option ρ) : XE → St → Option ρ := (blockK spec_ProductAlgebra.kp 0 3 (blockK spec_ProductAlgebra.kp 0 2 (seqK (xcode (E82 N) ents spec_ProductAlgebra.kp 0 N (cB (cB (cL (cK (cB (cA (cB (cB (cB spec_ProductAlgebra.bd))))))))) 1) (roundK spec_ProductAlgebra.kp 0 1 L0 kv))))

theorem spec_ProductAlgebra.k1_mix {ρ : Type} (N : Nat) (K : AV → Heap → Option ρ) (L0 : St → Option ρ) : mixK (spec_ProductAlgebra.fin N K .ret) (spec_ProductAlgebra.k1g N L0 (spec_ProductAlgebra.k0 N K)) = (spec_ProductAlgebra.k1g N L0 (spec_ProductAlgebra.k0 N K)) := by
  funext e s; cases e <;> rfl

noncomputable def spec_ProductAlgebra.st1 (a0 : Nat → Int) (b2 : Nat → Int) (b3 : Nat → Int) (i6 : Int) (k8 : Int) (g9 : Nat → Int) : St := ⟨sl 91 [(2, .sptr [(0, 2), (1, 520)]), (3, .sptr [(2, 2), (3, 520)]), (4, .sptr [(4, 2), (5, 520)]), (6, .int .i64 ((a0 1))), (7, .int .i64 (i6)), (8, .int .i64 (k8))], [⟨true, .ints .i64 2 a0⟩, ⟨true, .ints .u8 520 g9⟩, ⟨true, .ints .i64 2 b2⟩, ⟨true, .ints .u8 520 b3⟩, ⟨true, .ints .i64 2 (fun _ => 0)⟩, ⟨true, .ints .u8 520 (fun _ => 0)⟩]⟩

noncomputable def spec_ProductAlgebra.sx1_0 (a0 : Nat → Int) (b2 : Nat → Int) (b3 : Nat → Int) (i6 : Int) (o13 : Nat → Int) : St := ⟨sl 91 [(2, .sptr [(0, 2), (1, 520)]), (3, .sptr [(2, 2), (3, 520)]), (4, .sptr [(4, 2), (5, 520)]), (6, .int .i64 ((a0 1))), (7, .int .i64 (i6))], [⟨true, .ints .i64 2 a0⟩, ⟨true, .ints .u8 520 o13⟩, ⟨true, .ints .i64 2 b2⟩, ⟨true, .ints .u8 520 b3⟩, ⟨true, .ints .i64 2 (fun _ => 0)⟩, ⟨true, .ints .u8 520 (fun _ => 0)⟩]⟩

noncomputable def spec_ProductAlgebra.k2g {ρ : Type} (N : Nat) (L1 : St → Option ρ) (kv : XE → St → Option ρ) : XE → St → Option ρ := (blockK spec_ProductAlgebra.kp 0 5 (blockK spec_ProductAlgebra.kp 0 4 (seqK (xcode (E82 N) ents spec_ProductAlgebra.kp 0 N (cB (cB (cL (cK (cB (cB (cK (cA (cB (cL (cK (cB (cA (cB (cB (cB spec_ProductAlgebra.bd)))))))))))))))) 3) (roundK spec_ProductAlgebra.kp 0 3 L1 kv))))

theorem spec_ProductAlgebra.k2_mix {ρ : Type} (N : Nat) (K : AV → Heap → Option ρ) (L0 : St → Option ρ) (L1 : St → Option ρ) : mixK (spec_ProductAlgebra.fin N K .ret) (spec_ProductAlgebra.k2g N L1 (spec_ProductAlgebra.k1g N L0 (spec_ProductAlgebra.k0 N K))) = (spec_ProductAlgebra.k2g N L1 (spec_ProductAlgebra.k1g N L0 (spec_ProductAlgebra.k0 N K))) := by
  funext e s; cases e <;> rfl

noncomputable def spec_ProductAlgebra.st2 (a0 : Nat → Int) (b2 : Nat → Int) (b3 : Nat → Int) (i6 : Int) (k8 : Int) (m10 : Int) (g11 : Nat → Int) : St := ⟨sl 91 [(2, .sptr [(0, 2), (1, 520)]), (3, .sptr [(2, 2), (3, 520)]), (4, .sptr [(4, 2), (5, 520)]), (6, .int .i64 ((a0 1))), (7, .int .i64 (i6)), (8, .int .i64 (k8)), (9, .int .i64 (m10))], [⟨true, .ints .i64 2 a0⟩, ⟨true, .ints .u8 520 g11⟩, ⟨true, .ints .i64 2 b2⟩, ⟨true, .ints .u8 520 b3⟩, ⟨true, .ints .i64 2 (fun _ => 0)⟩, ⟨true, .ints .u8 520 (fun _ => 0)⟩]⟩

noncomputable def spec_ProductAlgebra.sx2_0 (a0 : Nat → Int) (b2 : Nat → Int) (b3 : Nat → Int) (i6 : Int) (k8 : Int) (o12 : Nat → Int) : St := ⟨sl 91 [(2, .sptr [(0, 2), (1, 520)]), (3, .sptr [(2, 2), (3, 520)]), (4, .sptr [(4, 2), (5, 520)]), (6, .int .i64 ((a0 1))), (7, .int .i64 (i6)), (8, .int .i64 (k8))], [⟨true, .ints .i64 2 a0⟩, ⟨true, .ints .u8 520 o12⟩, ⟨true, .ints .i64 2 b2⟩, ⟨true, .ints .u8 520 b3⟩, ⟨true, .ints .i64 2 (fun _ => 0)⟩, ⟨true, .ints .u8 520 (fun _ => 0)⟩]⟩

theorem spec_ProductAlgebra.b2_gen {ρ : Type} (N : Nat) (K : AV → Heap → Option ρ) (L2 : St → Option ρ) (kv : XE → St → Option ρ) (a0 : Nat → Int) (b2 : Nat → Int) (b3 : Nat → Int) (i6 : Int) (k8 : Int) (m10 : Int) (g11 : Nat → Int) :
    xcode (E82 N) ents spec_ProductAlgebra.kp 0 N (cL (cK (cB (cK (cA (cB (cL (cK (cB (cB (cK (cA (cB (cL (cK (cB (cA (cB (cB (cB spec_ProductAlgebra.bd)))))))))))))))))))) 5 (spec_ProductAlgebra.st2 a0 b2 b3 i6 k8 m10 g11) (roundK spec_ProductAlgebra.kp 0 5 L2 (mixK (spec_ProductAlgebra.fin N K .ret) kv)) = (spec_ProductAlgebra.b2 N (fun d0 d1 d2 => K (.tup [.agg [⟨.i64, 2, d0⟩, ⟨.u8, 520, d1⟩], .int .i64 (d2)]) []) (fun m10 g11 => L2 (spec_ProductAlgebra.st2 a0 b2 b3 i6 k8 m10 g11)) (fun o12 => kv (.exit 5) (spec_ProductAlgebra.sx2_0 a0 b2 b3 i6 k8 o12)) a0 b2 b3 i6 k8 m10 g11) := by kernel_rfl

theorem spec_ProductAlgebra.b2_eq {ρ : Type} (N : Nat) (K : AV → Heap → Option ρ) (L0 : St → Option ρ) (L1 : St → Option ρ) (L2 : St → Option ρ) (a0 : Nat → Int) (b2 : Nat → Int) (b3 : Nat → Int) (i6 : Int) (k8 : Int) (m10 : Int) (g11 : Nat → Int) :
    xcode (E82 N) ents spec_ProductAlgebra.kp 0 N (cL (cK (cB (cK (cA (cB (cL (cK (cB (cB (cK (cA (cB (cL (cK (cB (cA (cB (cB (cB spec_ProductAlgebra.bd)))))))))))))))))))) 5 (spec_ProductAlgebra.st2 a0 b2 b3 i6 k8 m10 g11) (roundK spec_ProductAlgebra.kp 0 5 L2 (spec_ProductAlgebra.k2g N L1 (spec_ProductAlgebra.k1g N L0 (spec_ProductAlgebra.k0 N K)))) = (spec_ProductAlgebra.b2 N (fun d0 d1 d2 => K (.tup [.agg [⟨.i64, 2, d0⟩, ⟨.u8, 520, d1⟩], .int .i64 (d2)]) []) (fun m10 g11 => L2 (spec_ProductAlgebra.st2 a0 b2 b3 i6 k8 m10 g11)) (fun o12 => (spec_ProductAlgebra.k2g N L1 (spec_ProductAlgebra.k1g N L0 (spec_ProductAlgebra.k0 N K))) (.exit 5) (spec_ProductAlgebra.sx2_0 a0 b2 b3 i6 k8 o12)) a0 b2 b3 i6 k8 m10 g11) := by
  have h := spec_ProductAlgebra.b2_gen N K L2 (spec_ProductAlgebra.k2g N L1 (spec_ProductAlgebra.k1g N L0 (spec_ProductAlgebra.k0 N K))) a0 b2 b3 i6 k8 m10 g11
  rw [spec_ProductAlgebra.k2_mix] at h
  exact h

theorem spec_ProductAlgebra.a2_0_gen {ρ : Type} (N : Nat) (K : AV → Heap → Option ρ) (L1 : St → Option ρ) (kv : XE → St → Option ρ) (a0 : Nat → Int) (b2 : Nat → Int) (b3 : Nat → Int) (i6 : Int) (k8 : Int) (o12 : Nat → Int) :
    (spec_ProductAlgebra.k2g N L1 (mixK (spec_ProductAlgebra.fin N K .ret) kv)) (.exit 5) (spec_ProductAlgebra.sx2_0 a0 b2 b3 i6 k8 o12) = (spec_ProductAlgebra.a2_0 N (fun d0 d1 d2 => K (.tup [.agg [⟨.i64, 2, d0⟩, ⟨.u8, 520, d1⟩], .int .i64 (d2)]) []) (fun k8 g9 => L1 (spec_ProductAlgebra.st1 a0 b2 b3 i6 k8 g9)) (fun o13 => kv (.exit 3) (spec_ProductAlgebra.sx1_0 a0 b2 b3 i6 o13)) k8 o12) := by kernel_rfl

theorem spec_ProductAlgebra.a2_0_eq {ρ : Type} (N : Nat) (K : AV → Heap → Option ρ) (L0 : St → Option ρ) (L1 : St → Option ρ) (a0 : Nat → Int) (b2 : Nat → Int) (b3 : Nat → Int) (i6 : Int) (k8 : Int) (o12 : Nat → Int) :
    (spec_ProductAlgebra.k2g N L1 (spec_ProductAlgebra.k1g N L0 (spec_ProductAlgebra.k0 N K))) (.exit 5) (spec_ProductAlgebra.sx2_0 a0 b2 b3 i6 k8 o12) = (spec_ProductAlgebra.a2_0 N (fun d0 d1 d2 => K (.tup [.agg [⟨.i64, 2, d0⟩, ⟨.u8, 520, d1⟩], .int .i64 (d2)]) []) (fun k8 g9 => L1 (spec_ProductAlgebra.st1 a0 b2 b3 i6 k8 g9)) (fun o13 => (spec_ProductAlgebra.k1g N L0 (spec_ProductAlgebra.k0 N K)) (.exit 3) (spec_ProductAlgebra.sx1_0 a0 b2 b3 i6 o13)) k8 o12) := by
  have h := spec_ProductAlgebra.a2_0_gen N K L1 (spec_ProductAlgebra.k1g N L0 (spec_ProductAlgebra.k0 N K)) a0 b2 b3 i6 k8 o12
  rw [spec_ProductAlgebra.k1_mix] at h
  exact h

theorem spec_ProductAlgebra.b1_gen {ρ : Type} (N : Nat) (K : AV → Heap → Option ρ) (L1 : St → Option ρ) (kv : XE → St → Option ρ) (a0 : Nat → Int) (b2 : Nat → Int) (b3 : Nat → Int) (i6 : Int) (k8 : Int) (g9 : Nat → Int) :
    xcode (E82 N) ents spec_ProductAlgebra.kp 0 N (cL (cK (cB (cB (cK (cA (cB (cL (cK (cB (cA (cB (cB (cB spec_ProductAlgebra.bd)))))))))))))) 3 (spec_ProductAlgebra.st1 a0 b2 b3 i6 k8 g9) (roundK spec_ProductAlgebra.kp 0 3 L1 (mixK (spec_ProductAlgebra.fin N K .ret) kv)) = (spec_ProductAlgebra.b1 N (fun d0 d1 d2 => K (.tup [.agg [⟨.i64, 2, d0⟩, ⟨.u8, 520, d1⟩], .int .i64 (d2)]) []) (fun m10 g11 => xloop (xcode (E82 N) ents spec_ProductAlgebra.kp 0 N (cL (cK (cB (cK (cA (cB (cL (cK (cB (cB (cK (cA (cB (cL (cK (cB (cA (cB (cB (cB spec_ProductAlgebra.bd)))))))))))))))))))) 5) spec_ProductAlgebra.kp 0 5 N (spec_ProductAlgebra.st2 a0 b2 b3 i6 k8 m10 g11) (spec_ProductAlgebra.k2g N L1 (mixK (spec_ProductAlgebra.fin N K .ret) kv))) (fun k8 g9 => L1 (spec_ProductAlgebra.st1 a0 b2 b3 i6 k8 g9)) (fun o13 => kv (.exit 3) (spec_ProductAlgebra.sx1_0 a0 b2 b3 i6 o13)) b2 k8 g9) := by kernel_rfl

theorem spec_ProductAlgebra.b1_eq {ρ : Type} (N : Nat) (K : AV → Heap → Option ρ) (L0 : St → Option ρ) (L1 : St → Option ρ) (a0 : Nat → Int) (b2 : Nat → Int) (b3 : Nat → Int) (i6 : Int) (k8 : Int) (g9 : Nat → Int) :
    xcode (E82 N) ents spec_ProductAlgebra.kp 0 N (cL (cK (cB (cB (cK (cA (cB (cL (cK (cB (cA (cB (cB (cB spec_ProductAlgebra.bd)))))))))))))) 3 (spec_ProductAlgebra.st1 a0 b2 b3 i6 k8 g9) (roundK spec_ProductAlgebra.kp 0 3 L1 (spec_ProductAlgebra.k1g N L0 (spec_ProductAlgebra.k0 N K))) = (spec_ProductAlgebra.b1 N (fun d0 d1 d2 => K (.tup [.agg [⟨.i64, 2, d0⟩, ⟨.u8, 520, d1⟩], .int .i64 (d2)]) []) (fun m10 g11 => xloop (xcode (E82 N) ents spec_ProductAlgebra.kp 0 N (cL (cK (cB (cK (cA (cB (cL (cK (cB (cB (cK (cA (cB (cL (cK (cB (cA (cB (cB (cB spec_ProductAlgebra.bd)))))))))))))))))))) 5) spec_ProductAlgebra.kp 0 5 N (spec_ProductAlgebra.st2 a0 b2 b3 i6 k8 m10 g11) (spec_ProductAlgebra.k2g N L1 (spec_ProductAlgebra.k1g N L0 (spec_ProductAlgebra.k0 N K)))) (fun k8 g9 => L1 (spec_ProductAlgebra.st1 a0 b2 b3 i6 k8 g9)) (fun o13 => (spec_ProductAlgebra.k1g N L0 (spec_ProductAlgebra.k0 N K)) (.exit 3) (spec_ProductAlgebra.sx1_0 a0 b2 b3 i6 o13)) b2 k8 g9) := by
  have h := spec_ProductAlgebra.b1_gen N K L1 (spec_ProductAlgebra.k1g N L0 (spec_ProductAlgebra.k0 N K)) a0 b2 b3 i6 k8 g9
  rw [spec_ProductAlgebra.k1_mix] at h
  exact h

theorem spec_ProductAlgebra.a1_0_gen {ρ : Type} (N : Nat) (K : AV → Heap → Option ρ) (L0 : St → Option ρ) (kv : XE → St → Option ρ) (a0 : Nat → Int) (b2 : Nat → Int) (b3 : Nat → Int) (i6 : Int) (o13 : Nat → Int) :
    (spec_ProductAlgebra.k1g N L0 (mixK (spec_ProductAlgebra.fin N K .ret) kv)) (.exit 3) (spec_ProductAlgebra.sx1_0 a0 b2 b3 i6 o13) = (spec_ProductAlgebra.a1_0 N (fun d0 d1 d2 => K (.tup [.agg [⟨.i64, 2, d0⟩, ⟨.u8, 520, d1⟩], .int .i64 (d2)]) []) (fun i6 g7 => L0 (spec_ProductAlgebra.st0 a0 b2 b3 i6 g7)) (fun o14 => kv (.exit 1) (spec_ProductAlgebra.sx0_0 a0 b2 b3 o14)) i6 o13) := by kernel_rfl

theorem spec_ProductAlgebra.a1_0_eq {ρ : Type} (N : Nat) (K : AV → Heap → Option ρ) (L0 : St → Option ρ) (a0 : Nat → Int) (b2 : Nat → Int) (b3 : Nat → Int) (i6 : Int) (o13 : Nat → Int) :
    (spec_ProductAlgebra.k1g N L0 (spec_ProductAlgebra.k0 N K)) (.exit 3) (spec_ProductAlgebra.sx1_0 a0 b2 b3 i6 o13) = (spec_ProductAlgebra.a1_0 N (fun d0 d1 d2 => K (.tup [.agg [⟨.i64, 2, d0⟩, ⟨.u8, 520, d1⟩], .int .i64 (d2)]) []) (fun i6 g7 => L0 (spec_ProductAlgebra.st0 a0 b2 b3 i6 g7)) (fun o14 => (spec_ProductAlgebra.k0 N K) (.exit 1) (spec_ProductAlgebra.sx0_0 a0 b2 b3 o14)) i6 o13) := by
  have h := spec_ProductAlgebra.a1_0_gen N K L0 (spec_ProductAlgebra.k0 N K) a0 b2 b3 i6 o13
  rw [spec_ProductAlgebra.k0_mix] at h
  exact h

theorem spec_ProductAlgebra.b0_gen {ρ : Type} (N : Nat) (K : AV → Heap → Option ρ) (L0 : St → Option ρ) (kv : XE → St → Option ρ) (a0 : Nat → Int) (b2 : Nat → Int) (b3 : Nat → Int) (i6 : Int) (g7 : Nat → Int) :
    xcode (E82 N) ents spec_ProductAlgebra.kp 0 N (cL (cK (cB (cA (cB (cB (cB spec_ProductAlgebra.bd))))))) 1 (spec_ProductAlgebra.st0 a0 b2 b3 i6 g7) (roundK spec_ProductAlgebra.kp 0 1 L0 (mixK (spec_ProductAlgebra.fin N K .ret) kv)) = (spec_ProductAlgebra.b0 N (fun d0 d1 d2 => K (.tup [.agg [⟨.i64, 2, d0⟩, ⟨.u8, 520, d1⟩], .int .i64 (d2)]) []) (fun k8 g9 => xloop (xcode (E82 N) ents spec_ProductAlgebra.kp 0 N (cL (cK (cB (cB (cK (cA (cB (cL (cK (cB (cA (cB (cB (cB spec_ProductAlgebra.bd)))))))))))))) 3) spec_ProductAlgebra.kp 0 3 N (spec_ProductAlgebra.st1 a0 b2 b3 i6 k8 g9) (spec_ProductAlgebra.k1g N L0 (mixK (spec_ProductAlgebra.fin N K .ret) kv))) (fun i6 g7 => L0 (spec_ProductAlgebra.st0 a0 b2 b3 i6 g7)) (fun o14 => kv (.exit 1) (spec_ProductAlgebra.sx0_0 a0 b2 b3 o14)) a0 b2 b3 i6 g7) := by kernel_rfl

theorem spec_ProductAlgebra.b0_eq {ρ : Type} (N : Nat) (K : AV → Heap → Option ρ) (L0 : St → Option ρ) (a0 : Nat → Int) (b2 : Nat → Int) (b3 : Nat → Int) (i6 : Int) (g7 : Nat → Int) :
    xcode (E82 N) ents spec_ProductAlgebra.kp 0 N (cL (cK (cB (cA (cB (cB (cB spec_ProductAlgebra.bd))))))) 1 (spec_ProductAlgebra.st0 a0 b2 b3 i6 g7) (roundK spec_ProductAlgebra.kp 0 1 L0 (spec_ProductAlgebra.k0 N K)) = (spec_ProductAlgebra.b0 N (fun d0 d1 d2 => K (.tup [.agg [⟨.i64, 2, d0⟩, ⟨.u8, 520, d1⟩], .int .i64 (d2)]) []) (fun k8 g9 => xloop (xcode (E82 N) ents spec_ProductAlgebra.kp 0 N (cL (cK (cB (cB (cK (cA (cB (cL (cK (cB (cA (cB (cB (cB spec_ProductAlgebra.bd)))))))))))))) 3) spec_ProductAlgebra.kp 0 3 N (spec_ProductAlgebra.st1 a0 b2 b3 i6 k8 g9) (spec_ProductAlgebra.k1g N L0 (spec_ProductAlgebra.k0 N K))) (fun i6 g7 => L0 (spec_ProductAlgebra.st0 a0 b2 b3 i6 g7)) (fun o14 => (spec_ProductAlgebra.k0 N K) (.exit 1) (spec_ProductAlgebra.sx0_0 a0 b2 b3 o14)) a0 b2 b3 i6 g7) := by
  have h := spec_ProductAlgebra.b0_gen N K L0 (spec_ProductAlgebra.k0 N K) a0 b2 b3 i6 g7
  rw [spec_ProductAlgebra.k0_mix] at h
  exact h

theorem spec_ProductAlgebra.a0_0_eq {ρ : Type} (N : Nat) (K : AV → Heap → Option ρ) (a0 : Nat → Int) (b2 : Nat → Int) (b3 : Nat → Int) (o14 : Nat → Int) :
    (spec_ProductAlgebra.k0 N K) (.exit 1) (spec_ProductAlgebra.sx0_0 a0 b2 b3 o14) = (spec_ProductAlgebra.a0_0 N (fun d0 d1 d2 => K (.tup [.agg [⟨.i64, 2, d0⟩, ⟨.u8, 520, d1⟩], .int .i64 (d2)]) []) a0 b2 o14) := by kernel_rfl

theorem spec_ProductAlgebra.l2_eq {ρ : Type} (N : Nat) (K : AV → Heap → Option ρ) (L0 : St → Option ρ) (L1 : St → Option ρ) (a0 : Nat → Int) (b2 : Nat → Int) (b3 : Nat → Int) (i6 : Int) (k8 : Int) :
    ∀ (m : Nat) (m10 : Int) (g11 : Nat → Int), xloop (xcode (E82 N) ents spec_ProductAlgebra.kp 0 N (cL (cK (cB (cK (cA (cB (cL (cK (cB (cB (cK (cA (cB (cL (cK (cB (cA (cB (cB (cB spec_ProductAlgebra.bd)))))))))))))))))))) 5) spec_ProductAlgebra.kp 0 5 m (spec_ProductAlgebra.st2 a0 b2 b3 i6 k8 m10 g11) (spec_ProductAlgebra.k2g N L1 (spec_ProductAlgebra.k1g N L0 (spec_ProductAlgebra.k0 N K))) = (spec_ProductAlgebra.l2 N (fun d0 d1 d2 => K (.tup [.agg [⟨.i64, 2, d0⟩, ⟨.u8, 520, d1⟩], .int .i64 (d2)]) []) a0 b2 b3 i6 k8 (fun o12 => (spec_ProductAlgebra.k2g N L1 (spec_ProductAlgebra.k1g N L0 (spec_ProductAlgebra.k0 N K))) (.exit 5) (spec_ProductAlgebra.sx2_0 a0 b2 b3 i6 k8 o12)) m m10 g11) := by
  intro m
  induction m with
  | zero => intros; rfl
  | succ m ih =>
    intro m10 g11
    refine (spec_ProductAlgebra.b2_eq N K L0 L1 (fun s => xloop (xcode (E82 N) ents spec_ProductAlgebra.kp 0 N (cL (cK (cB (cK (cA (cB (cL (cK (cB (cB (cK (cA (cB (cL (cK (cB (cA (cB (cB (cB spec_ProductAlgebra.bd)))))))))))))))))))) 5) spec_ProductAlgebra.kp 0 5 m s (spec_ProductAlgebra.k2g N L1 (spec_ProductAlgebra.k1g N L0 (spec_ProductAlgebra.k0 N K)))) a0 b2 b3 i6 k8 m10 g11).trans ?_
    simp only [ih]
    kernel_rfl

theorem spec_ProductAlgebra.l1_eq {ρ : Type} (N : Nat) (K : AV → Heap → Option ρ) (L0 : St → Option ρ) (a0 : Nat → Int) (b2 : Nat → Int) (b3 : Nat → Int) (i6 : Int) :
    ∀ (m : Nat) (k8 : Int) (g9 : Nat → Int), xloop (xcode (E82 N) ents spec_ProductAlgebra.kp 0 N (cL (cK (cB (cB (cK (cA (cB (cL (cK (cB (cA (cB (cB (cB spec_ProductAlgebra.bd)))))))))))))) 3) spec_ProductAlgebra.kp 0 3 m (spec_ProductAlgebra.st1 a0 b2 b3 i6 k8 g9) (spec_ProductAlgebra.k1g N L0 (spec_ProductAlgebra.k0 N K)) = (spec_ProductAlgebra.l1 N (fun d0 d1 d2 => K (.tup [.agg [⟨.i64, 2, d0⟩, ⟨.u8, 520, d1⟩], .int .i64 (d2)]) []) a0 b2 b3 i6 (fun o13 => (spec_ProductAlgebra.k1g N L0 (spec_ProductAlgebra.k0 N K)) (.exit 3) (spec_ProductAlgebra.sx1_0 a0 b2 b3 i6 o13)) m k8 g9) := by
  intro m
  induction m with
  | zero => intros; rfl
  | succ m ih =>
    intro k8 g9
    refine (spec_ProductAlgebra.b1_eq N K L0 (fun s => xloop (xcode (E82 N) ents spec_ProductAlgebra.kp 0 N (cL (cK (cB (cB (cK (cA (cB (cL (cK (cB (cA (cB (cB (cB spec_ProductAlgebra.bd)))))))))))))) 3) spec_ProductAlgebra.kp 0 3 m s (spec_ProductAlgebra.k1g N L0 (spec_ProductAlgebra.k0 N K))) a0 b2 b3 i6 k8 g9).trans ?_
    simp only [ih, spec_ProductAlgebra.l2_eq, spec_ProductAlgebra.a2_0_eq]
    kernel_rfl

theorem spec_ProductAlgebra.l0_eq {ρ : Type} (N : Nat) (K : AV → Heap → Option ρ) (a0 : Nat → Int) (b2 : Nat → Int) (b3 : Nat → Int) :
    ∀ (m : Nat) (i6 : Int) (g7 : Nat → Int), xloop (xcode (E82 N) ents spec_ProductAlgebra.kp 0 N (cL (cK (cB (cA (cB (cB (cB spec_ProductAlgebra.bd))))))) 1) spec_ProductAlgebra.kp 0 1 m (spec_ProductAlgebra.st0 a0 b2 b3 i6 g7) (spec_ProductAlgebra.k0 N K) = (spec_ProductAlgebra.l0 N (fun d0 d1 d2 => K (.tup [.agg [⟨.i64, 2, d0⟩, ⟨.u8, 520, d1⟩], .int .i64 (d2)]) []) a0 b2 b3 (fun o14 => (spec_ProductAlgebra.k0 N K) (.exit 1) (spec_ProductAlgebra.sx0_0 a0 b2 b3 o14)) m i6 g7) := by
  intro m
  induction m with
  | zero => intros; rfl
  | succ m ih =>
    intro i6 g7
    refine (spec_ProductAlgebra.b0_eq N K (fun s => xloop (xcode (E82 N) ents spec_ProductAlgebra.kp 0 N (cL (cK (cB (cA (cB (cB (cB spec_ProductAlgebra.bd))))))) 1) spec_ProductAlgebra.kp 0 1 m s (spec_ProductAlgebra.k0 N K)) a0 b2 b3 i6 g7).trans ?_
    simp only [ih, spec_ProductAlgebra.l1_eq, spec_ProductAlgebra.a1_0_eq]
    kernel_rfl

theorem spec_ProductAlgebra.s_eq {ρ : Type} (N : Nat) (K : AV → Heap → Option ρ) (a0 : Nat → Int) (a1 : Nat → Int) (b2 : Nat → Int) (b3 : Nat → Int) :
    xbody (E82 N) ents spec_ProductAlgebra.kp N Go.Proofs.Try.f41 spec_ProductAlgebra.bd [.agg [⟨.i64, 2, a0⟩, ⟨.u8, 520, a1⟩], .agg [⟨.i64, 2, b2⟩, ⟨.u8, 520, b3⟩]] [] K = (spec_ProductAlgebra.s N (fun d0 d1 d2 => K (.tup [.agg [⟨.i64, 2, d0⟩, ⟨.u8, 520, d1⟩], .int .i64 (d2)]) []) (fun i6 g7 => xloop (xcode (E82 N) ents spec_ProductAlgebra.kp 0 N (cL (cK (cB (cA (cB (cB (cB spec_ProductAlgebra.bd))))))) 1) spec_ProductAlgebra.kp 0 1 N (spec_ProductAlgebra.st0 a0 b2 b3 i6 g7) (spec_ProductAlgebra.k0 N K)) a0 a1 b2 b3) := by kernel_rfl

theorem spec_ProductAlgebra.eq {ρ : Type} (N : Nat) (K : AV → Heap → Option ρ) (a0 : Nat → Int) (a1 : Nat → Int) (b2 : Nat → Int) (b3 : Nat → Int) :
    xbody (E82 N) ents spec_ProductAlgebra.kp N Go.Proofs.Try.f41 spec_ProductAlgebra.bd [.agg [⟨.i64, 2, a0⟩, ⟨.u8, 520, a1⟩], .agg [⟨.i64, 2, b2⟩, ⟨.u8, 520, b3⟩]] [] K = (spec_ProductAlgebra N (fun d0 d1 d2 => K (.tup [.agg [⟨.i64, 2, d0⟩, ⟨.u8, 520, d1⟩], .int .i64 (d2)]) []) a0 a1 b2 b3) := by
  refine (spec_ProductAlgebra.s_eq N K a0 a1 b2 b3).trans ?_
  simp only [spec_ProductAlgebra.l0_eq, spec_ProductAlgebra.a0_0_eq]
  kernel_rfl

noncomputable def spec_ProductAlgebra.en (N : Nat) (ρ : Type) : List AV → Heap → (AV → Heap → Option ρ) → Option ρ
  | [.agg [⟨.i64, 2, a0⟩, ⟨.u8, 520, a1⟩], .agg [⟨.i64, 2, b2⟩, ⟨.u8, 520, b3⟩]], [], K => (spec_ProductAlgebra N (fun d0 d1 d2 => K (.tup [.agg [⟨.i64, 2, d0⟩, ⟨.u8, 520, d1⟩], .int .i64 (d2)]) []) a0 a1 b2 b3)
  | _, _, _ => none

theorem spec_ProductAlgebra.en_ok (N : Nat) (hE : EnvOk (E82 N) ents) (ρ : Type) (args : List AV) (sh : Heap) (K : AV → Heap → Option ρ) (r : ρ) (h : spec_ProductAlgebra.en N ρ args sh K = some r) : ∃ v sh', K v sh' = some r ∧ FnOk (E82 N).P 41 args sh v sh' := by
  unfold spec_ProductAlgebra.en at h
  split at h
  · exact fn_ok hE (kp := spec_ProductAlgebra.kp) (N := N) Go.Proofs.Try.func41 (c := spec_ProductAlgebra.bd) (by kernel_rfl) ((spec_ProductAlgebra.eq N _ _ _ _ _).trans h)
  · cases h

noncomputable def E83 (N : Nat) : Env := (E82 N).add 41 (spec_ProductAlgebra.en N)

theorem E83_ok (N : Nat) : EnvOk (E83 N) ents := Env.add_ok (E82_ok N) (spec_ProductAlgebra.en_ok N (E82_ok N))

noncomputable def impl_moved.kp : Keeps := ⟨[(0, [1, 4, 5, 9, 10], 3)], [(0, [4, 5], 3)]⟩

noncomputable def impl_moved.bd : Code := bodyOf Go.Proofs.Try.f75

noncomputable def impl_moved.fin {ρ : Type} (N : Nat) (K : AV → Heap → Option ρ) : XE → St → Option ρ := finK (E83 N) Go.Proofs.Try.f75 [] K

noncomputable def impl_moved.k0 {ρ : Type} (N : Nat) (K : AV → Heap → Option ρ) : XE → St → Option ρ := (blockK impl_moved.kp 0 0 (seqK (xcode (E83 N) ents impl_moved.kp 0 N (cB (cB (cB impl_moved.bd))) 0) (impl_moved.fin N K)))

theorem impl_moved.k0_mix {ρ : Type} (N : Nat) (K : AV → Heap → Option ρ) : mixK (impl_moved.fin N K .ret) (impl_moved.k0 N K) = (impl_moved.k0 N K) := by
  funext e s; cases e <;> rfl

noncomputable def impl_moved.st0 (v0 : Nat → Int) (by1 : Int) (x2 : Int) (g3 : Nat → Int) : St := ⟨sl 23 [(1, .int .i64 (by1)), (4, .sptr [(1, 8)]), (5, .sptr [(2, 8)]), (9, .agg [⟨.u8, 8, v0⟩]), (10, .int .i64 (x2))], [⟨true, .ints .u8 8 v0⟩, ⟨true, .ints .u8 8 (fun _ => 0)⟩, ⟨true, .ints .u8 8 g3⟩]⟩

noncomputable def impl_moved.sx0_0 (v0 : Nat → Int) (o4 : Nat → Int) : St := ⟨sl 23 [(4, .sptr [(1, 8)]), (5, .sptr [(2, 8)])], [⟨true, .ints .u8 8 v0⟩, ⟨true, .ints .u8 8 (fun _ => 0)⟩, ⟨true, .ints .u8 8 o4⟩]⟩

theorem impl_moved.b0_gen {ρ : Type} (N : Nat) (K : AV → Heap → Option ρ) (L0 : St → Option ρ) (kv : XE → St → Option ρ) (v0 : Nat → Int) (by1 : Int) (x2 : Int) (g3 : Nat → Int) :
    xcode (E83 N) ents impl_moved.kp 0 N (cL (cK (cB (cA (cB (cB impl_moved.bd)))))) 0 (impl_moved.st0 v0 by1 x2 g3) (roundK impl_moved.kp 0 0 L0 (mixK (impl_moved.fin N K .ret) kv)) = (impl_moved.b0 N (fun d0 => K (.agg [⟨.u8, 8, d0⟩]) []) (fun x2 g3 => L0 (impl_moved.st0 v0 by1 x2 g3)) (fun o4 => kv (.exit 0) (impl_moved.sx0_0 v0 o4)) v0 by1 x2 g3) := by kernel_rfl

theorem impl_moved.b0_eq {ρ : Type} (N : Nat) (K : AV → Heap → Option ρ) (L0 : St → Option ρ) (v0 : Nat → Int) (by1 : Int) (x2 : Int) (g3 : Nat → Int) :
    xcode (E83 N) ents impl_moved.kp 0 N (cL (cK (cB (cA (cB (cB impl_moved.bd)))))) 0 (impl_moved.st0 v0 by1 x2 g3) (roundK impl_moved.kp 0 0 L0 (impl_moved.k0 N K)) = (impl_moved.b0 N (fun d0 => K (.agg [⟨.u8, 8, d0⟩]) []) (fun x2 g3 => L0 (impl_moved.st0 v0 by1 x2 g3)) (fun o4 => (impl_moved.k0 N K) (.exit 0) (impl_moved.sx0_0 v0 o4)) v0 by1 x2 g3) := by
  have h := impl_moved.b0_gen N K L0 (impl_moved.k0 N K) v0 by1 x2 g3
  rw [impl_moved.k0_mix] at h
  exact h

theorem impl_moved.a0_0_eq {ρ : Type} (N : Nat) (K : AV → Heap → Option ρ) (v0 : Nat → Int) (o4 : Nat → Int) :
    (impl_moved.k0 N K) (.exit 0) (impl_moved.sx0_0 v0 o4) = (impl_moved.a0_0 N (fun d0 => K (.agg [⟨.u8, 8, d0⟩]) []) o4) := by kernel_rfl

theorem impl_moved.l0_eq {ρ : Type} (N : Nat) (K : AV → Heap → Option ρ) (v0 : Nat → Int) (by1 : Int) :
    ∀ (m : Nat) (x2 : Int) (g3 : Nat → Int), xloop (xcode (E83 N) ents impl_moved.kp 0 N (cL (cK (cB (cA (cB (cB impl_moved.bd)))))) 0) impl_moved.kp 0 0 m (impl_moved.st0 v0 by1 x2 g3) (impl_moved.k0 N K) = (impl_moved.l0 N (fun d0 => K (.agg [⟨.u8, 8, d0⟩]) []) v0 by1 (fun o4 => (impl_moved.k0 N K) (.exit 0) (impl_moved.sx0_0 v0 o4)) m x2 g3) := by
  intro m
  induction m with
  | zero => intros; rfl
  | succ m ih =>
    intro x2 g3
    refine (impl_moved.b0_eq N K (fun s => xloop (xcode (E83 N) ents impl_moved.kp 0 N (cL (cK (cB (cA (cB (cB impl_moved.bd)))))) 0) impl_moved.kp 0 0 m s (impl_moved.k0 N K)) v0 by1 x2 g3).trans ?_
    simp only [ih]
    kernel_rfl

theorem impl_moved.s_eq {ρ : Type} (N : Nat) (K : AV → Heap → Option ρ) (v0 : Nat → Int) (by1 : Int) :
    xbody (E83 N) ents impl_moved.kp N Go.Proofs.Try.f75 impl_moved.bd [.agg [⟨.u8, 8, v0⟩], .int .i64 (by1)] [] K = (impl_moved.s N (fun d0 => K (.agg [⟨.u8, 8, d0⟩]) []) (fun x2 g3 => xloop (xcode (E83 N) ents impl_moved.kp 0 N (cL (cK (cB (cA (cB (cB impl_moved.bd)))))) 0) impl_moved.kp 0 0 N (impl_moved.st0 v0 by1 x2 g3) (impl_moved.k0 N K))) := by kernel_rfl

theorem impl_moved.eq {ρ : Type} (N : Nat) (K : AV → Heap → Option ρ) (v0 : Nat → Int) (by1 : Int) :
    xbody (E83 N) ents impl_moved.kp N Go.Proofs.Try.f75 impl_moved.bd [.agg [⟨.u8, 8, v0⟩], .int .i64 (by1)] [] K = (impl_moved N (fun d0 => K (.agg [⟨.u8, 8, d0⟩]) []) v0 by1) := by
  refine (impl_moved.s_eq N K v0 by1).trans ?_
  simp only [impl_moved.l0_eq, impl_moved.a0_0_eq]
  kernel_rfl

noncomputable def impl_moved.en (N : Nat) (ρ : Type) : List AV → Heap → (AV → Heap → Option ρ) → Option ρ
  | [.agg [⟨.u8, 8, v0⟩], .int .i64 (by1)], [], K => (impl_moved N (fun d0 => K (.agg [⟨.u8, 8, d0⟩]) []) v0 by1)
  | _, _, _ => none

theorem impl_moved.en_ok (N : Nat) (hE : EnvOk (E83 N) ents) (ρ : Type) (args : List AV) (sh : Heap) (K : AV → Heap → Option ρ) (r : ρ) (h : impl_moved.en N ρ args sh K = some r) : ∃ v sh', K v sh' = some r ∧ FnOk (E83 N).P 75 args sh v sh' := by
  unfold impl_moved.en at h
  split at h
  · exact fn_ok hE (kp := impl_moved.kp) (N := N) Go.Proofs.Try.func75 (c := impl_moved.bd) (by kernel_rfl) ((impl_moved.eq N _ _ _).trans h)
  · cases h

noncomputable def E84 (N : Nat) : Env := (E83 N).add 75 (impl_moved.en N)

theorem E84_ok (N : Nat) : EnvOk (E84 N) ents := Env.add_ok (E83_ok N) (impl_moved.en_ok N (E83_ok N))
end Go.Proofs.Ytmjpfchbkolcbaa.H
