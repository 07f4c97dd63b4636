/- The program computes these functions. -/
import Derived.Test.YtacdnmdfoimjcaaHL4
namespace Go.Proofs.Ytacdnmdfoimjcaa.H
set_option linter.unusedVariables false
set_option linter.unusedSimpArgs false
open Go Go.RowKit Go.Proofs.Ytacdnmdfoimjcaa.Hx
set_option linter.unusedVariables false
set_option maxRecDepth 100000
noncomputable def laws_eqVector.kp : Keeps := ⟨[(0, [2, 3, 5], 2)], [(0, [], 2)]⟩

noncomputable def laws_eqVector.bd : Code := bodyOf Go.Proofs.Try.f25

noncomputable def laws_eqVector.fin {ρ : Type} (N : Nat) (K : AV → Heap → Option ρ) : XE → St → Option ρ := finK (E102 N) Go.Proofs.Try.f25 [] K

noncomputable def laws_eqVector.k0 {ρ : Type} (N : Nat) (K : AV → Heap → Option ρ) : XE → St → Option ρ := (blockK laws_eqVector.kp 0 0 (seqK (xcode (E102 N) ents laws_eqVector.kp 0 N (cB (cB laws_eqVector.bd)) 0) (laws_eqVector.fin N K)))

theorem laws_eqVector.k0_mix {ρ : Type} (N : Nat) (K : AV → Heap → Option ρ) : mixK (laws_eqVector.fin N K .ret) (laws_eqVector.k0 N K) = (laws_eqVector.k0 N K) := by
  funext e s; cases e <;> rfl

noncomputable def laws_eqVector.st0 (a0 : Nat → Int) (b1 : Nat → Int) (i2 : Int) : St := ⟨sl 17 [(2, .sptr [(0, 8)]), (3, .sptr [(1, 8)]), (5, .int .i64 (i2))], [⟨true, .ints .u8 8 a0⟩, ⟨true, .ints .u8 8 b1⟩]⟩

noncomputable def laws_eqVector.sx0_0 (a0 : Nat → Int) (b1 : Nat → Int) : St := ⟨sl 17 [], [⟨true, .ints .u8 8 a0⟩, ⟨true, .ints .u8 8 b1⟩]⟩

theorem laws_eqVector.b0_gen {ρ : Type} (N : Nat) (K : AV → Heap → Option ρ) (L0 : St → Option ρ) (kv : XE → St → Option ρ) (a0 : Nat → Int) (b1 : Nat → Int) (i2 : Int) :
    xcode (E102 N) ents laws_eqVector.kp 0 N (cL (cK (cB (cA (cB laws_eqVector.bd))))) 0 (laws_eqVector.st0 a0 b1 i2) (roundK laws_eqVector.kp 0 0 L0 (mixK (laws_eqVector.fin N K .ret) kv)) = (laws_eqVector.b0 N (fun d0 => K (.bool (d0)) []) (fun i2 => L0 (laws_eqVector.st0 a0 b1 i2)) (kv (.exit 0) (laws_eqVector.sx0_0 a0 b1)) a0 b1 i2) := by kernel_rfl

theorem laws_eqVector.b0_eq {ρ : Type} (N : Nat) (K : AV → Heap → Option ρ) (L0 : St → Option ρ) (a0 : Nat → Int) (b1 : Nat → Int) (i2 : Int) :
    xcode (E102 N) ents laws_eqVector.kp 0 N (cL (cK (cB (cA (cB laws_eqVector.bd))))) 0 (laws_eqVector.st0 a0 b1 i2) (roundK laws_eqVector.kp 0 0 L0 (laws_eqVector.k0 N K)) = (laws_eqVector.b0 N (fun d0 => K (.bool (d0)) []) (fun i2 => L0 (laws_eqVector.st0 a0 b1 i2)) ((laws_eqVector.k0 N K) (.exit 0) (laws_eqVector.sx0_0 a0 b1)) a0 b1 i2) := by
  have h := laws_eqVector.b0_gen N K L0 (laws_eqVector.k0 N K) a0 b1 i2
  rw [laws_eqVector.k0_mix] at h
  exact h

theorem laws_eqVector.a0_0_eq {ρ : Type} (N : Nat) (K : AV → Heap → Option ρ) (a0 : Nat → Int) (b1 : Nat → Int) :
    (laws_eqVector.k0 N K) (.exit 0) (laws_eqVector.sx0_0 a0 b1) = (laws_eqVector.a0_0 N (fun d0 => K (.bool (d0)) [])) := by kernel_rfl

theorem laws_eqVector.l0_eq {ρ : Type} (N : Nat) (K : AV → Heap → Option ρ) (a0 : Nat → Int) (b1 : Nat → Int) :
    ∀ (m : Nat) (i2 : Int), xloop (xcode (E102 N) ents laws_eqVector.kp 0 N (cL (cK (cB (cA (cB laws_eqVector.bd))))) 0) laws_eqVector.kp 0 0 m (laws_eqVector.st0 a0 b1 i2) (laws_eqVector.k0 N K) = (laws_eqVector.l0 N (fun d0 => K (.bool (d0)) []) a0 b1 ((laws_eqVector.k0 N K) (.exit 0) (laws_eqVector.sx0_0 a0 b1)) m i2) := by
  intro m
  induction m with
  | zero => intros; rfl
  | succ m ih =>
    intro i2
    refine (laws_eqVector.b0_eq N K (fun s => xloop (xcode (E102 N) ents laws_eqVector.kp 0 N (cL (cK (cB (cA (cB laws_eqVector.bd))))) 0) laws_eqVector.kp 0 0 m s (laws_eqVector.k0 N K)) a0 b1 i2).trans ?_
    simp only [ih]
    kernel_rfl

theorem laws_eqVector.s_eq {ρ : Type} (N : Nat) (K : AV → Heap → Option ρ) (a0 : Nat → Int) (b1 : Nat → Int) :
    xbody (E102 N) ents laws_eqVector.kp N Go.Proofs.Try.f25 laws_eqVector.bd [.agg [⟨.u8, 8, a0⟩], .agg [⟨.u8, 8, b1⟩]] [] K = (laws_eqVector.s N (fun d0 => K (.bool (d0)) []) (fun i2 => xloop (xcode (E102 N) ents laws_eqVector.kp 0 N (cL (cK (cB (cA (cB laws_eqVector.bd))))) 0) laws_eqVector.kp 0 0 N (laws_eqVector.st0 a0 b1 i2) (laws_eqVector.k0 N K))) := by kernel_rfl

theorem laws_eqVector.eq {ρ : Type} (N : Nat) (K : AV → Heap → Option ρ) (a0 : Nat → Int) (b1 : Nat → Int) :
    xbody (E102 N) ents laws_eqVector.kp N Go.Proofs.Try.f25 laws_eqVector.bd [.agg [⟨.u8, 8, a0⟩], .agg [⟨.u8, 8, b1⟩]] [] K = (laws_eqVector N (fun d0 => K (.bool (d0)) []) a0 b1) := by
  refine (laws_eqVector.s_eq N K a0 b1).trans ?_
  simp only [laws_eqVector.l0_eq, laws_eqVector.a0_0_eq]
  kernel_rfl

noncomputable def laws_eqVector.en (N : Nat) (ρ : Type) : List AV → Heap → (AV → Heap → Option ρ) → Option ρ
  | [.agg [⟨.u8, 8, a0⟩], .agg [⟨.u8, 8, b1⟩]], [], K => (laws_eqVector N (fun d0 => K (.bool (d0)) []) a0 b1)
  | _, _, _ => none

theorem laws_eqVector.en_ok (N : Nat) (hE : EnvOk (E102 N) ents) (ρ : Type) (args : List AV) (sh : Heap) (K : AV → Heap → Option ρ) (r : ρ) (h : laws_eqVector.en N ρ args sh K = some r) : ∃ v sh', K v sh' = some r ∧ FnOk (E102 N).P 25 args sh v sh' := by
  unfold laws_eqVector.en at h
  split at h
  · exact fn_ok hE (kp := laws_eqVector.kp) (N := N) Go.Proofs.Try.func25 (c := laws_eqVector.bd) (by kernel_rfl) ((laws_eqVector.eq N _ _ _).trans h)
  · cases h

noncomputable def E103 (N : Nat) : Env := (E102 N).add 25 (laws_eqVector.en N)

theorem E103_ok (N : Nat) : EnvOk (E103 N) ents := Env.add_ok (E102_ok N) (laws_eqVector.en_ok N (E102_ok N))

noncomputable def laws_eqLinear.kp : Keeps := ⟨[(0, [2, 3, 5], 2)], [(0, [], 2)]⟩

noncomputable def laws_eqLinear.bd : Code := bodyOf Go.Proofs.Try.f22

noncomputable def laws_eqLinear.fin {ρ : Type} (N : Nat) (K : AV → Heap → Option ρ) : XE → St → Option ρ := finK (E103 N) Go.Proofs.Try.f22 [] K

noncomputable def laws_eqLinear.k0 {ρ : Type} (N : Nat) (K : AV → Heap → Option ρ) : XE → St → Option ρ := (blockK laws_eqLinear.kp 0 0 (seqK (xcode (E103 N) ents laws_eqLinear.kp 0 N (cB (cB laws_eqLinear.bd)) 0) (laws_eqLinear.fin N K)))

theorem laws_eqLinear.k0_mix {ρ : Type} (N : Nat) (K : AV → Heap → Option ρ) : mixK (laws_eqLinear.fin N K .ret) (laws_eqLinear.k0 N K) = (laws_eqLinear.k0 N K) := by
  funext e s; cases e <;> rfl

noncomputable def laws_eqLinear.st0 (a0 : Nat → Int) (b1 : Nat → Int) (i2 : Int) : St := ⟨sl 18 [(2, .sptr [(0, 64)]), (3, .sptr [(1, 64)]), (5, .int .i64 (i2))], [⟨true, .ints .u8 64 a0⟩, ⟨true, .ints .u8 64 b1⟩]⟩

noncomputable def laws_eqLinear.sx0_0 (a0 : Nat → Int) (b1 : Nat → Int) : St := ⟨sl 18 [], [⟨true, .ints .u8 64 a0⟩, ⟨true, .ints .u8 64 b1⟩]⟩

theorem laws_eqLinear.b0_gen {ρ : Type} (N : Nat) (K : AV → Heap → Option ρ) (L0 : St → Option ρ) (kv : XE → St → Option ρ) (a0 : Nat → Int) (b1 : Nat → Int) (i2 : Int) :
    xcode (E103 N) ents laws_eqLinear.kp 0 N (cL (cK (cB (cA (cB laws_eqLinear.bd))))) 0 (laws_eqLinear.st0 a0 b1 i2) (roundK laws_eqLinear.kp 0 0 L0 (mixK (laws_eqLinear.fin N K .ret) kv)) = (laws_eqLinear.b0 N (fun d0 => K (.bool (d0)) []) (fun i2 => L0 (laws_eqLinear.st0 a0 b1 i2)) (kv (.exit 0) (laws_eqLinear.sx0_0 a0 b1)) a0 b1 i2) := by kernel_rfl

theorem laws_eqLinear.b0_eq {ρ : Type} (N : Nat) (K : AV → Heap → Option ρ) (L0 : St → Option ρ) (a0 : Nat → Int) (b1 : Nat → Int) (i2 : Int) :
    xcode (E103 N) ents laws_eqLinear.kp 0 N (cL (cK (cB (cA (cB laws_eqLinear.bd))))) 0 (laws_eqLinear.st0 a0 b1 i2) (roundK laws_eqLinear.kp 0 0 L0 (laws_eqLinear.k0 N K)) = (laws_eqLinear.b0 N (fun d0 => K (.bool (d0)) []) (fun i2 => L0 (laws_eqLinear.st0 a0 b1 i2)) ((laws_eqLinear.k0 N K) (.exit 0) (laws_eqLinear.sx0_0 a0 b1)) a0 b1 i2) := by
  have h := laws_eqLinear.b0_gen N K L0 (laws_eqLinear.k0 N K) a0 b1 i2
  rw [laws_eqLinear.k0_mix] at h
  exact h

theorem laws_eqLinear.a0_0_eq {ρ : Type} (N : Nat) (K : AV → Heap → Option ρ) (a0 : Nat → Int) (b1 : Nat → Int) :
    (laws_eqLinear.k0 N K) (.exit 0) (laws_eqLinear.sx0_0 a0 b1) = (laws_eqLinear.a0_0 N (fun d0 => K (.bool (d0)) [])) := by kernel_rfl

theorem laws_eqLinear.l0_eq {ρ : Type} (N : Nat) (K : AV → Heap → Option ρ) (a0 : Nat → Int) (b1 : Nat → Int) :
    ∀ (m : Nat) (i2 : Int), xloop (xcode (E103 N) ents laws_eqLinear.kp 0 N (cL (cK (cB (cA (cB laws_eqLinear.bd))))) 0) laws_eqLinear.kp 0 0 m (laws_eqLinear.st0 a0 b1 i2) (laws_eqLinear.k0 N K) = (laws_eqLinear.l0 N (fun d0 => K (.bool (d0)) []) a0 b1 ((laws_eqLinear.k0 N K) (.exit 0) (laws_eqLinear.sx0_0 a0 b1)) m i2) := by
  intro m
  induction m with
  | zero => intros; rfl
  | succ m ih =>
    intro i2
    refine (laws_eqLinear.b0_eq N K (fun s => xloop (xcode (E103 N) ents laws_eqLinear.kp 0 N (cL (cK (cB (cA (cB laws_eqLinear.bd))))) 0) laws_eqLinear.kp 0 0 m s (laws_eqLinear.k0 N K)) a0 b1 i2).trans ?_
    simp only [ih]
    kernel_rfl

theorem laws_eqLinear.s_eq {ρ : Type} (N : Nat) (K : AV → Heap → Option ρ) (a0 : Nat → Int) (b1 : Nat → Int) :
    xbody (E103 N) ents laws_eqLinear.kp N Go.Proofs.Try.f22 laws_eqLinear.bd [.agg [⟨.u8, 64, a0⟩], .agg [⟨.u8, 64, b1⟩]] [] K = (laws_eqLinear.s N (fun d0 => K (.bool (d0)) []) (fun i2 => xloop (xcode (E103 N) ents laws_eqLinear.kp 0 N (cL (cK (cB (cA (cB laws_eqLinear.bd))))) 0) laws_eqLinear.kp 0 0 N (laws_eqLinear.st0 a0 b1 i2) (laws_eqLinear.k0 N K))) := by kernel_rfl

theorem laws_eqLinear.eq {ρ : Type} (N : Nat) (K : AV → Heap → Option ρ) (a0 : Nat → Int) (b1 : Nat → Int) :
    xbody (E103 N) ents laws_eqLinear.kp N Go.Proofs.Try.f22 laws_eqLinear.bd [.agg [⟨.u8, 64, a0⟩], .agg [⟨.u8, 64, b1⟩]] [] K = (laws_eqLinear N (fun d0 => K (.bool (d0)) []) a0 b1) := by
  refine (laws_eqLinear.s_eq N K a0 b1).trans ?_
  simp only [laws_eqLinear.l0_eq, laws_eqLinear.a0_0_eq]
  kernel_rfl

noncomputable def laws_eqLinear.en (N : Nat) (ρ : Type) : List AV → Heap → (AV → Heap → Option ρ) → Option ρ
  | [.agg [⟨.u8, 64, a0⟩], .agg [⟨.u8, 64, b1⟩]], [], K => (laws_eqLinear N (fun d0 => K (.bool (d0)) []) a0 b1)
  | _, _, _ => none

theorem laws_eqLinear.en_ok (N : Nat) (hE : EnvOk (E103 N) ents) (ρ : Type) (args : List AV) (sh : Heap) (K : AV → Heap → Option ρ) (r : ρ) (h : laws_eqLinear.en N ρ args sh K = some r) : ∃ v sh', K v sh' = some r ∧ FnOk (E103 N).P 22 args sh v sh' := by
  unfold laws_eqLinear.en at h
  split at h
  · exact fn_ok hE (kp := laws_eqLinear.kp) (N := N) Go.Proofs.Try.func22 (c := laws_eqLinear.bd) (by kernel_rfl) ((laws_eqLinear.eq N _ _ _).trans h)
  · cases h

noncomputable def E104 (N : Nat) : Env := (E103 N).add 22 (laws_eqLinear.en N)

theorem E104_ok (N : Nat) : EnvOk (E104 N) ents := Env.add_ok (E103_ok N) (laws_eqLinear.en_ok N (E103_ok N))

noncomputable def laws_FnExactCoproductOf.kp : Keeps := ⟨[], []⟩

noncomputable def laws_FnExactCoproductOf.bd : Code := bodyOf Go.Proofs.Try.f7

noncomputable def laws_FnExactCoproductOf.fin {ρ : Type} (N : Nat) (K : AV → Heap → Option ρ) : XE → St → Option ρ := finK (E104 N) Go.Proofs.Try.f7 [] K

theorem laws_FnExactCoproductOf.eq {ρ : Type} (N : Nat) (K : AV → Heap → Option ρ) (aH0 : Nat → Int) (aH1 : Nat → Int) (aV2 : Nat → Int) :
    xbody (E104 N) ents laws_FnExactCoproductOf.kp N Go.Proofs.Try.f7 laws_FnExactCoproductOf.bd [.agg [⟨.i64, 2, aH0⟩, ⟨.u8, 1104, aH1⟩], .agg [⟨.u8, 8, aV2⟩]] [] K = (laws_FnExactCoproductOf N (fun d0 => K (.bool (d0)) []) aH0 aH1 aV2) := by kernel_rfl

noncomputable def laws_FnExactCoproductOf.en (N : Nat) (ρ : Type) : List AV → Heap → (AV → Heap → Option ρ) → Option ρ
  | [.agg [⟨.i64, 2, aH0⟩, ⟨.u8, 1104, aH1⟩], .agg [⟨.u8, 8, aV2⟩]], [], K => (laws_FnExactCoproductOf N (fun d0 => K (.bool (d0)) []) aH0 aH1 aV2)
  | _, _, _ => none

theorem laws_FnExactCoproductOf.en_ok (N : Nat) (hE : EnvOk (E104 N) ents) (ρ : Type) (args : List AV) (sh : Heap) (K : AV → Heap → Option ρ) (r : ρ) (h : laws_FnExactCoproductOf.en N ρ args sh K = some r) : ∃ v sh', K v sh' = some r ∧ FnOk (E104 N).P 7 args sh v sh' := by
  unfold laws_FnExactCoproductOf.en at h
  split at h
  · exact fn_ok hE (kp := laws_FnExactCoproductOf.kp) (N := N) Go.Proofs.Try.func7 (c := laws_FnExactCoproductOf.bd) (by kernel_rfl) ((laws_FnExactCoproductOf.eq N _ _ _ _).trans h)
  · cases h

noncomputable def E105 (N : Nat) : Env := (E104 N).add 7 (laws_FnExactCoproductOf.en N)

theorem E105_ok (N : Nat) : EnvOk (E105 N) ents := Env.add_ok (E104_ok N) (laws_FnExactCoproductOf.en_ok N (E104_ok N))

noncomputable def spec_AntipodeOf.kp : Keeps := ⟨[], []⟩

noncomputable def spec_AntipodeOf.bd : Code := bodyOf Go.Proofs.Try.f23

noncomputable def spec_AntipodeOf.fin {ρ : Type} (N : Nat) (K : AV → Heap → Option ρ) : XE → St → Option ρ := finK (E105 N) Go.Proofs.Try.f23 [] K

theorem spec_AntipodeOf.eq {ρ : Type} (N : Nat) (K : AV → Heap → Option ρ) (h0 : Nat → Int) (h1 : Nat → Int) (v2 : Nat → Int) :
    xbody (E105 N) ents spec_AntipodeOf.kp N Go.Proofs.Try.f23 spec_AntipodeOf.bd [.agg [⟨.i64, 2, h0⟩, ⟨.u8, 1104, h1⟩], .agg [⟨.u8, 8, v2⟩]] [] K = (spec_AntipodeOf N (fun d0 d1 => K (.tup [.agg [⟨.u8, 8, d0⟩], .int .i64 (d1)]) []) h0 h1 v2) := by kernel_rfl

noncomputable def spec_AntipodeOf.en (N : Nat) (ρ : Type) : List AV → Heap → (AV → Heap → Option ρ) → Option ρ
  | [.agg [⟨.i64, 2, h0⟩, ⟨.u8, 1104, h1⟩], .agg [⟨.u8, 8, v2⟩]], [], K => (spec_AntipodeOf N (fun d0 d1 => K (.tup [.agg [⟨.u8, 8, d0⟩], .int .i64 (d1)]) []) h0 h1 v2)
  | _, _, _ => none

theorem spec_AntipodeOf.en_ok (N : Nat) (hE : EnvOk (E105 N) ents) (ρ : Type) (args : List AV) (sh : Heap) (K : AV → Heap → Option ρ) (r : ρ) (h : spec_AntipodeOf.en N ρ args sh K = some r) : ∃ v sh', K v sh' = some r ∧ FnOk (E105 N).P 23 args sh v sh' := by
  unfold spec_AntipodeOf.en at h
  split at h
  · exact fn_ok hE (kp := spec_AntipodeOf.kp) (N := N) Go.Proofs.Try.func23 (c := spec_AntipodeOf.bd) (by kernel_rfl) ((spec_AntipodeOf.eq N _ _ _ _).trans h)
  · cases h

noncomputable def E106 (N : Nat) : Env := (E105 N).add 23 (spec_AntipodeOf.en N)

theorem E106_ok (N : Nat) : EnvOk (E106 N) ents := Env.add_ok (E105_ok N) (spec_AntipodeOf.en_ok N (E105_ok N))

noncomputable def impl_field_apply.kp : Keeps := ⟨[(0, [1, 3, 6, 7, 11, 12], 5)], [(0, [6, 7], 5)]⟩

noncomputable def impl_field_apply.bd : Code := bodyOf Go.Proofs.Try.f79

noncomputable def impl_field_apply.fin {ρ : Type} (N : Nat) (K : AV → Heap → Option ρ) (g2 : Nat → Int) : XE → St → Option ρ := finK (E106 N) Go.Proofs.Try.f79 [⟨false, .ints .u8 64 g2⟩] K

noncomputable def impl_field_apply.k0 {ρ : Type} (N : Nat) (K : AV → Heap → Option ρ) (g2 : Nat → Int) : XE → St → Option ρ := (blockK impl_field_apply.kp 1 0 (seqK (xcode (E106 N) ents impl_field_apply.kp 1 N (cB (cB (cB impl_field_apply.bd))) 0) (impl_field_apply.fin N K g2)))

theorem impl_field_apply.k0_mix {ρ : Type} (N : Nat) (K : AV → Heap → Option ρ) (g2 : Nat → Int) : mixK (impl_field_apply.fin N K g2 .ret) (impl_field_apply.k0 N K g2) = (impl_field_apply.k0 N K g2) := by
  funext e s; cases e <;> rfl

noncomputable def impl_field_apply.st0 (f0 : Nat → Int) (v1 : Nat → Int) (g2 : Nat → Int) (x3 : Int) (g4 : Nat → Int) : St := ⟨sl 27 [(1, .sptr [(0, 64)]), (3, .sptr [(1, 2)]), (6, .sptr [(3, 8)]), (7, .sptr [(4, 8)]), (11, .agg [⟨.u8, 8, v1⟩]), (12, .int .i64 (x3))], [⟨false, .ints .u8 64 g2⟩, ⟨true, .ints .i64 2 f0⟩, ⟨true, .ints .u8 8 v1⟩, ⟨true, .ints .u8 8 (fun _ => 0)⟩, ⟨true, .ints .u8 8 g4⟩]⟩

noncomputable def impl_field_apply.sx0_0 (f0 : Nat → Int) (v1 : Nat → Int) (g2 : Nat → Int) (o6 : Nat → Int) : St := ⟨sl 27 [(6, .sptr [(3, 8)]), (7, .sptr [(4, 8)])], [⟨false, .ints .u8 64 g2⟩, ⟨true, .ints .i64 2 f0⟩, ⟨true, .ints .u8 8 v1⟩, ⟨true, .ints .u8 8 (fun _ => 0)⟩, ⟨true, .ints .u8 8 o6⟩]⟩

theorem impl_field_apply.b0_gen {ρ : Type} (N : Nat) (K : AV → Heap → Option ρ) (L0 : St → Option ρ) (kv : XE → St → Option ρ) (f0 : Nat → Int) (v1 : Nat → Int) (g2 : Nat → Int) (x3 : Int) (g4 : Nat → Int) :
    xcode (E106 N) ents impl_field_apply.kp 1 N (cL (cK (cB (cA (cB (cB impl_field_apply.bd)))))) 0 (impl_field_apply.st0 f0 v1 g2 x3 g4) (roundK impl_field_apply.kp 1 0 L0 (mixK (impl_field_apply.fin N K g2 .ret) kv)) = (impl_field_apply.b0 N (fun d0 => K (.agg [⟨.u8, 8, d0⟩]) [⟨false, .ints .u8 64 g2⟩]) (fun x3 g4 => L0 (impl_field_apply.st0 f0 v1 g2 x3 g4)) (fun o6 => kv (.exit 0) (impl_field_apply.sx0_0 f0 v1 g2 o6)) f0 v1 g2 x3 g4) := by kernel_rfl

theorem impl_field_apply.b0_eq {ρ : Type} (N : Nat) (K : AV → Heap → Option ρ) (L0 : St → Option ρ) (f0 : Nat → Int) (v1 : Nat → Int) (g2 : Nat → Int) (x3 : Int) (g4 : Nat → Int) :
    xcode (E106 N) ents impl_field_apply.kp 1 N (cL (cK (cB (cA (cB (cB impl_field_apply.bd)))))) 0 (impl_field_apply.st0 f0 v1 g2 x3 g4) (roundK impl_field_apply.kp 1 0 L0 (impl_field_apply.k0 N K g2)) = (impl_field_apply.b0 N (fun d0 => K (.agg [⟨.u8, 8, d0⟩]) [⟨false, .ints .u8 64 g2⟩]) (fun x3 g4 => L0 (impl_field_apply.st0 f0 v1 g2 x3 g4)) (fun o6 => (impl_field_apply.k0 N K g2) (.exit 0) (impl_field_apply.sx0_0 f0 v1 g2 o6)) f0 v1 g2 x3 g4) := by
  have h := impl_field_apply.b0_gen N K L0 (impl_field_apply.k0 N K g2) f0 v1 g2 x3 g4
  rw [impl_field_apply.k0_mix] at h
  exact h

theorem impl_field_apply.a0_0_eq {ρ : Type} (N : Nat) (K : AV → Heap → Option ρ) (f0 : Nat → Int) (v1 : Nat → Int) (g2 : Nat → Int) (o6 : Nat → Int) :
    (impl_field_apply.k0 N K g2) (.exit 0) (impl_field_apply.sx0_0 f0 v1 g2 o6) = (impl_field_apply.a0_0 N (fun d0 => K (.agg [⟨.u8, 8, d0⟩]) [⟨false, .ints .u8 64 g2⟩]) o6) := by kernel_rfl

theorem impl_field_apply.l0_eq {ρ : Type} (N : Nat) (K : AV → Heap → Option ρ) (f0 : Nat → Int) (v1 : Nat → Int) (g2 : Nat → Int) :
    ∀ (m : Nat) (x3 : Int) (g4 : Nat → Int), xloop (xcode (E106 N) ents impl_field_apply.kp 1 N (cL (cK (cB (cA (cB (cB impl_field_apply.bd)))))) 0) impl_field_apply.kp 1 0 m (impl_field_apply.st0 f0 v1 g2 x3 g4) (impl_field_apply.k0 N K g2) = (impl_field_apply.l0 N (fun d0 => K (.agg [⟨.u8, 8, d0⟩]) [⟨false, .ints .u8 64 g2⟩]) f0 v1 g2 (fun o6 => (impl_field_apply.k0 N K g2) (.exit 0) (impl_field_apply.sx0_0 f0 v1 g2 o6)) m x3 g4) := by
  intro m
  induction m with
  | zero => intros; rfl
  | succ m ih =>
    intro x3 g4
    refine (impl_field_apply.b0_eq N K (fun s => xloop (xcode (E106 N) ents impl_field_apply.kp 1 N (cL (cK (cB (cA (cB (cB impl_field_apply.bd)))))) 0) impl_field_apply.kp 1 0 m s (impl_field_apply.k0 N K g2)) f0 v1 g2 x3 g4).trans ?_
    simp only [ih]
    kernel_rfl

theorem impl_field_apply.s_eq {ρ : Type} (N : Nat) (K : AV → Heap → Option ρ) (f0 : Nat → Int) (v1 : Nat → Int) (g2 : Nat → Int) :
    xbody (E106 N) ents impl_field_apply.kp N Go.Proofs.Try.f79 impl_field_apply.bd [.agg [⟨.i64, 2, f0⟩], .sptr [(0, 64)], .agg [⟨.u8, 8, v1⟩]] [⟨false, .ints .u8 64 g2⟩] K = (impl_field_apply.s N (fun d0 => K (.agg [⟨.u8, 8, d0⟩]) [⟨false, .ints .u8 64 g2⟩]) (fun x3 g4 => xloop (xcode (E106 N) ents impl_field_apply.kp 1 N (cL (cK (cB (cA (cB (cB impl_field_apply.bd)))))) 0) impl_field_apply.kp 1 0 N (impl_field_apply.st0 f0 v1 g2 x3 g4) (impl_field_apply.k0 N K g2))) := by kernel_rfl

theorem impl_field_apply.eq {ρ : Type} (N : Nat) (K : AV → Heap → Option ρ) (f0 : Nat → Int) (v1 : Nat → Int) (g2 : Nat → Int) :
    xbody (E106 N) ents impl_field_apply.kp N Go.Proofs.Try.f79 impl_field_apply.bd [.agg [⟨.i64, 2, f0⟩], .sptr [(0, 64)], .agg [⟨.u8, 8, v1⟩]] [⟨false, .ints .u8 64 g2⟩] K = (impl_field_apply N (fun d0 => K (.agg [⟨.u8, 8, d0⟩]) [⟨false, .ints .u8 64 g2⟩]) f0 v1 g2) := by
  refine (impl_field_apply.s_eq N K f0 v1 g2).trans ?_
  simp only [impl_field_apply.l0_eq, impl_field_apply.a0_0_eq]
  kernel_rfl

noncomputable def impl_field_apply.en (N : Nat) (ρ : Type) : List AV → Heap → (AV → Heap → Option ρ) → Option ρ
  | [.agg [⟨.i64, 2, f0⟩], .sptr [(0, 64)], .agg [⟨.u8, 8, v1⟩]], [⟨false, .ints .u8 64 g2⟩], K => (impl_field_apply N (fun d0 => K (.agg [⟨.u8, 8, d0⟩]) [⟨false, .ints .u8 64 g2⟩]) f0 v1 g2)
  | _, _, _ => none

theorem impl_field_apply.en_ok (N : Nat) (hE : EnvOk (E106 N) ents) (ρ : Type) (args : List AV) (sh : Heap) (K : AV → Heap → Option ρ) (r : ρ) (h : impl_field_apply.en N ρ args sh K = some r) : ∃ v sh', K v sh' = some r ∧ FnOk (E106 N).P 79 args sh v sh' := by
  unfold impl_field_apply.en at h
  split at h
  · exact fn_ok hE (kp := impl_field_apply.kp) (N := N) Go.Proofs.Try.func79 (c := impl_field_apply.bd) (by kernel_rfl) ((impl_field_apply.eq N _ _ _ _).trans h)
  · cases h

noncomputable def E107 (N : Nat) : Env := (E106 N).add 79 (impl_field_apply.en N)

theorem E107_ok (N : Nat) : EnvOk (E107 N) ents := Env.add_ok (E106_ok N) (impl_field_apply.en_ok N (E106_ok N))

noncomputable def impl_Hopf_antipode.kp : Keeps := ⟨[], []⟩

noncomputable def impl_Hopf_antipode.bd : Code := bodyOf Go.Proofs.Try.f51

noncomputable def impl_Hopf_antipode.fin {ρ : Type} (N : Nat) (K : AV → Heap → Option ρ) (g1 : Nat → Int) (g2 : Nat → Int) : XE → St → Option ρ := finK (E107 N) Go.Proofs.Try.f51 [⟨false, .ints .i64 2 g1⟩, ⟨false, .ints .u8 1104 g2⟩] K

theorem impl_Hopf_antipode.eq {ρ : Type} (N : Nat) (K : AV → Heap → Option ρ) (v0 : Nat → Int) (g1 : Nat → Int) (g2 : Nat → Int) :
    xbody (E107 N) ents impl_Hopf_antipode.kp N Go.Proofs.Try.f51 impl_Hopf_antipode.bd [.sptr [(0, 2), (1, 1104)], .agg [⟨.u8, 8, v0⟩]] [⟨false, .ints .i64 2 g1⟩, ⟨false, .ints .u8 1104 g2⟩] K = (impl_Hopf_antipode N (fun d0 => K (.agg [⟨.u8, 8, d0⟩]) [⟨false, .ints .i64 2 g1⟩, ⟨false, .ints .u8 1104 g2⟩]) v0 g1 g2) := by kernel_rfl

noncomputable def impl_Hopf_antipode.en (N : Nat) (ρ : Type) : List AV → Heap → (AV → Heap → Option ρ) → Option ρ
  | [.sptr [(0, 2), (1, 1104)], .agg [⟨.u8, 8, v0⟩]], [⟨false, .ints .i64 2 g1⟩, ⟨false, .ints .u8 1104 g2⟩], K => (impl_Hopf_antipode N (fun d0 => K (.agg [⟨.u8, 8, d0⟩]) [⟨false, .ints .i64 2 g1⟩, ⟨false, .ints .u8 1104 g2⟩]) v0 g1 g2)
  | _, _, _ => none

theorem impl_Hopf_antipode.en_ok (N : Nat) (hE : EnvOk (E107 N) ents) (ρ : Type) (args : List AV) (sh : Heap) (K : AV → Heap → Option ρ) (r : ρ) (h : impl_Hopf_antipode.en N ρ args sh K = some r) : ∃ v sh', K v sh' = some r ∧ FnOk (E107 N).P 51 args sh v sh' := by
  unfold impl_Hopf_antipode.en at h
  split at h
  · exact fn_ok hE (kp := impl_Hopf_antipode.kp) (N := N) Go.Proofs.Try.func51 (c := impl_Hopf_antipode.bd) (by kernel_rfl) ((impl_Hopf_antipode.eq N _ _ _ _).trans h)
  · cases h

noncomputable def E108 (N : Nat) : Env := (E107 N).add 51 (impl_Hopf_antipode.en N)

theorem E108_ok (N : Nat) : EnvOk (E108 N) ents := Env.add_ok (E107_ok N) (impl_Hopf_antipode.en_ok N (E107_ok N))

noncomputable def impl_AntipodeOf.kp : Keeps := ⟨[], []⟩

noncomputable def impl_AntipodeOf.bd : Code := bodyOf Go.Proofs.Try.f24

noncomputable def impl_AntipodeOf.fin {ρ : Type} (N : Nat) (K : AV → Heap → Option ρ) : XE → St → Option ρ := finK (E108 N) Go.Proofs.Try.f24 [] K

theorem impl_AntipodeOf.eq {ρ : Type} (N : Nat) (K : AV → Heap → Option ρ) (h0 : Nat → Int) (h1 : Nat → Int) (v2 : Nat → Int) :
    xbody (E108 N) ents impl_AntipodeOf.kp N Go.Proofs.Try.f24 impl_AntipodeOf.bd [.agg [⟨.i64, 2, h0⟩, ⟨.u8, 1104, h1⟩], .agg [⟨.u8, 8, v2⟩]] [] K = (impl_AntipodeOf N (fun d0 d1 => K (.tup [.agg [⟨.u8, 8, d0⟩], .int .i64 (d1)]) []) h0 h1 v2) := by kernel_rfl

noncomputable def impl_AntipodeOf.en (N : Nat) (ρ : Type) : List AV → Heap → (AV → Heap → Option ρ) → Option ρ
  | [.agg [⟨.i64, 2, h0⟩, ⟨.u8, 1104, h1⟩], .agg [⟨.u8, 8, v2⟩]], [], K => (impl_AntipodeOf N (fun d0 d1 => K (.tup [.agg [⟨.u8, 8, d0⟩], .int .i64 (d1)]) []) h0 h1 v2)
  | _, _, _ => none

theorem impl_AntipodeOf.en_ok (N : Nat) (hE : EnvOk (E108 N) ents) (ρ : Type) (args : List AV) (sh : Heap) (K : AV → Heap → Option ρ) (r : ρ) (h : impl_AntipodeOf.en N ρ args sh K = some r) : ∃ v sh', K v sh' = some r ∧ FnOk (E108 N).P 24 args sh v sh' := by
  unfold impl_AntipodeOf.en at h
  split at h
  · exact fn_ok hE (kp := impl_AntipodeOf.kp) (N := N) Go.Proofs.Try.func24 (c := impl_AntipodeOf.bd) (by kernel_rfl) ((impl_AntipodeOf.eq N _ _ _ _).trans h)
  · cases h

noncomputable def E109 (N : Nat) : Env := (E108 N).add 24 (impl_AntipodeOf.en N)

theorem E109_ok (N : Nat) : EnvOk (E109 N) ents := Env.add_ok (E108_ok N) (impl_AntipodeOf.en_ok N (E108_ok N))

noncomputable def laws_FnExactAntipodeOf.kp : Keeps := ⟨[], []⟩

noncomputable def laws_FnExactAntipodeOf.bd : Code := bodyOf Go.Proofs.Try.f8

noncomputable def laws_FnExactAntipodeOf.fin {ρ : Type} (N : Nat) (K : AV → Heap → Option ρ) : XE → St → Option ρ := finK (E109 N) Go.Proofs.Try.f8 [] K

theorem laws_FnExactAntipodeOf.eq {ρ : Type} (N : Nat) (K : AV → Heap → Option ρ) (aH0 : Nat → Int) (aH1 : Nat → Int) (aV2 : Nat → Int) :
    xbody (E109 N) ents laws_FnExactAntipodeOf.kp N Go.Proofs.Try.f8 laws_FnExactAntipodeOf.bd [.agg [⟨.i64, 2, aH0⟩, ⟨.u8, 1104, aH1⟩], .agg [⟨.u8, 8, aV2⟩]] [] K = (laws_FnExactAntipodeOf N (fun d0 => K (.bool (d0)) []) aH0 aH1 aV2) := by kernel_rfl

noncomputable def laws_FnExactAntipodeOf.en (N : Nat) (ρ : Type) : List AV → Heap → (AV → Heap → Option ρ) → Option ρ
  | [.agg [⟨.i64, 2, aH0⟩, ⟨.u8, 1104, aH1⟩], .agg [⟨.u8, 8, aV2⟩]], [], K => (laws_FnExactAntipodeOf N (fun d0 => K (.bool (d0)) []) aH0 aH1 aV2)
  | _, _, _ => none

theorem laws_FnExactAntipodeOf.en_ok (N : Nat) (hE : EnvOk (E109 N) ents) (ρ : Type) (args : List AV) (sh : Heap) (K : AV → Heap → Option ρ) (r : ρ) (h : laws_FnExactAntipodeOf.en N ρ args sh K = some r) : ∃ v sh', K v sh' = some r ∧ FnOk (E109 N).P 8 args sh v sh' := by
  unfold laws_FnExactAntipodeOf.en at h
  split at h
  · exact fn_ok hE (kp := laws_FnExactAntipodeOf.kp) (N := N) Go.Proofs.Try.func8 (c := laws_FnExactAntipodeOf.bd) (by kernel_rfl) ((laws_FnExactAntipodeOf.eq N _ _ _ _).trans h)
  · cases h

noncomputable def E110 (N : Nat) : Env := (E109 N).add 8 (laws_FnExactAntipodeOf.en N)

theorem E110_ok (N : Nat) : EnvOk (E110 N) ents := Env.add_ok (E109_ok N) (laws_FnExactAntipodeOf.en_ok N (E109_ok N))

noncomputable def spec_RegularComodule.kp : Keeps := ⟨[], []⟩

noncomputable def spec_RegularComodule.bd : Code := bodyOf Go.Proofs.Try.f26

noncomputable def spec_RegularComodule.fin {ρ : Type} (N : Nat) (K : AV → Heap → Option ρ) : XE → St → Option ρ := finK (E110 N) Go.Proofs.Try.f26 [] K

theorem spec_RegularComodule.eq {ρ : Type} (N : Nat) (K : AV → Heap → Option ρ) (h0 : Nat → Int) (h1 : Nat → Int) :
    xbody (E110 N) ents spec_RegularComodule.kp N Go.Proofs.Try.f26 spec_RegularComodule.bd [.agg [⟨.i64, 2, h0⟩, ⟨.u8, 1104, h1⟩]] [] K = (spec_RegularComodule N (fun d0 d1 d2 => K (.tup [.agg [⟨.i64, 1, d0⟩, ⟨.u8, 512, d1⟩], .int .i64 (d2)]) []) h0 h1) := by kernel_rfl

noncomputable def spec_RegularComodule.en (N : Nat) (ρ : Type) : List AV → Heap → (AV → Heap → Option ρ) → Option ρ
  | [.agg [⟨.i64, 2, h0⟩, ⟨.u8, 1104, h1⟩]], [], K => (spec_RegularComodule N (fun d0 d1 d2 => K (.tup [.agg [⟨.i64, 1, d0⟩, ⟨.u8, 512, d1⟩], .int .i64 (d2)]) []) h0 h1)
  | _, _, _ => none

theorem spec_RegularComodule.en_ok (N : Nat) (hE : EnvOk (E110 N) ents) (ρ : Type) (args : List AV) (sh : Heap) (K : AV → Heap → Option ρ) (r : ρ) (h : spec_RegularComodule.en N ρ args sh K = some r) : ∃ v sh', K v sh' = some r ∧ FnOk (E110 N).P 26 args sh v sh' := by
  unfold spec_RegularComodule.en at h
  split at h
  · exact fn_ok hE (kp := spec_RegularComodule.kp) (N := N) Go.Proofs.Try.func26 (c := spec_RegularComodule.bd) (by kernel_rfl) ((spec_RegularComodule.eq N _ _ _).trans h)
  · cases h

noncomputable def E111 (N : Nat) : Env := (E110 N).add 26 (spec_RegularComodule.en N)

theorem E111_ok (N : Nat) : EnvOk (E111 N) ents := Env.add_ok (E110_ok N) (spec_RegularComodule.en_ok N (E110_ok N))

noncomputable def impl_RegularComodule.kp : Keeps := ⟨[], []⟩

noncomputable def impl_RegularComodule.bd : Code := bodyOf Go.Proofs.Try.f27

noncomputable def impl_RegularComodule.fin {ρ : Type} (N : Nat) (K : AV → Heap → Option ρ) : XE → St → Option ρ := finK (E111 N) Go.Proofs.Try.f27 [] K

theorem impl_RegularComodule.eq {ρ : Type} (N : Nat) (K : AV → Heap → Option ρ) (h0 : Nat → Int) (h1 : Nat → Int) :
    xbody (E111 N) ents impl_RegularComodule.kp N Go.Proofs.Try.f27 impl_RegularComodule.bd [.agg [⟨.i64, 2, h0⟩, ⟨.u8, 1104, h1⟩]] [] K = (impl_RegularComodule N (fun d0 d1 d2 => K (.tup [.agg [⟨.i64, 1, d0⟩, ⟨.u8, 512, d1⟩], .int .i64 (d2)]) []) h0 h1) := by kernel_rfl

noncomputable def impl_RegularComodule.en (N : Nat) (ρ : Type) : List AV → Heap → (AV → Heap → Option ρ) → Option ρ
  | [.agg [⟨.i64, 2, h0⟩, ⟨.u8, 1104, h1⟩]], [], K => (impl_RegularComodule N (fun d0 d1 d2 => K (.tup [.agg [⟨.i64, 1, d0⟩, ⟨.u8, 512, d1⟩], .int .i64 (d2)]) []) h0 h1)
  | _, _, _ => none

theorem impl_RegularComodule.en_ok (N : Nat) (hE : EnvOk (E111 N) ents) (ρ : Type) (args : List AV) (sh : Heap) (K : AV → Heap → Option ρ) (r : ρ) (h : impl_RegularComodule.en N ρ args sh K = some r) : ∃ v sh', K v sh' = some r ∧ FnOk (E111 N).P 27 args sh v sh' := by
  unfold impl_RegularComodule.en at h
  split at h
  · exact fn_ok hE (kp := impl_RegularComodule.kp) (N := N) Go.Proofs.Try.func27 (c := impl_RegularComodule.bd) (by kernel_rfl) ((impl_RegularComodule.eq N _ _ _).trans h)
  · cases h

noncomputable def E112 (N : Nat) : Env := (E111 N).add 27 (impl_RegularComodule.en N)

theorem E112_ok (N : Nat) : EnvOk (E112 N) ents := Env.add_ok (E111_ok N) (impl_RegularComodule.en_ok N (E111_ok N))

noncomputable def laws_eqTable.kp : Keeps := ⟨[(0, [2, 3, 5], 2)], [(0, [], 2)]⟩

noncomputable def laws_eqTable.bd : Code := bodyOf Go.Proofs.Try.f52

noncomputable def laws_eqTable.fin {ρ : Type} (N : Nat) (K : AV → Heap → Option ρ) : XE → St → Option ρ := finK (E112 N) Go.Proofs.Try.f52 [] K

noncomputable def laws_eqTable.k0 {ρ : Type} (N : Nat) (K : AV → Heap → Option ρ) : XE → St → Option ρ := (blockK laws_eqTable.kp 0 0 (seqK (xcode (E112 N) ents laws_eqTable.kp 0 N (cB (cB laws_eqTable.bd)) 0) (laws_eqTable.fin N K)))

theorem laws_eqTable.k0_mix {ρ : Type} (N : Nat) (K : AV → Heap → Option ρ) : mixK (laws_eqTable.fin N K .ret) (laws_eqTable.k0 N K) = (laws_eqTable.k0 N K) := by
  funext e s; cases e <;> rfl

noncomputable def laws_eqTable.st0 (a0 : Nat → Int) (b1 : Nat → Int) (i2 : Int) : St := ⟨sl 18 [(2, .sptr [(0, 512)]), (3, .sptr [(1, 512)]), (5, .int .i64 (i2))], [⟨true, .ints .u8 512 a0⟩, ⟨true, .ints .u8 512 b1⟩]⟩

noncomputable def laws_eqTable.sx0_0 (a0 : Nat → Int) (b1 : Nat → Int) : St := ⟨sl 18 [], [⟨true, .ints .u8 512 a0⟩, ⟨true, .ints .u8 512 b1⟩]⟩

theorem laws_eqTable.b0_gen {ρ : Type} (N : Nat) (K : AV → Heap → Option ρ) (L0 : St → Option ρ) (kv : XE → St → Option ρ) (a0 : Nat → Int) (b1 : Nat → Int) (i2 : Int) :
    xcode (E112 N) ents laws_eqTable.kp 0 N (cL (cK (cB (cA (cB laws_eqTable.bd))))) 0 (laws_eqTable.st0 a0 b1 i2) (roundK laws_eqTable.kp 0 0 L0 (mixK (laws_eqTable.fin N K .ret) kv)) = (laws_eqTable.b0 N (fun d0 => K (.bool (d0)) []) (fun i2 => L0 (laws_eqTable.st0 a0 b1 i2)) (kv (.exit 0) (laws_eqTable.sx0_0 a0 b1)) a0 b1 i2) := by kernel_rfl

theorem laws_eqTable.b0_eq {ρ : Type} (N : Nat) (K : AV → Heap → Option ρ) (L0 : St → Option ρ) (a0 : Nat → Int) (b1 : Nat → Int) (i2 : Int) :
    xcode (E112 N) ents laws_eqTable.kp 0 N (cL (cK (cB (cA (cB laws_eqTable.bd))))) 0 (laws_eqTable.st0 a0 b1 i2) (roundK laws_eqTable.kp 0 0 L0 (laws_eqTable.k0 N K)) = (laws_eqTable.b0 N (fun d0 => K (.bool (d0)) []) (fun i2 => L0 (laws_eqTable.st0 a0 b1 i2)) ((laws_eqTable.k0 N K) (.exit 0) (laws_eqTable.sx0_0 a0 b1)) a0 b1 i2) := by
  have h := laws_eqTable.b0_gen N K L0 (laws_eqTable.k0 N K) a0 b1 i2
  rw [laws_eqTable.k0_mix] at h
  exact h

theorem laws_eqTable.a0_0_eq {ρ : Type} (N : Nat) (K : AV → Heap → Option ρ) (a0 : Nat → Int) (b1 : Nat → Int) :
    (laws_eqTable.k0 N K) (.exit 0) (laws_eqTable.sx0_0 a0 b1) = (laws_eqTable.a0_0 N (fun d0 => K (.bool (d0)) [])) := by kernel_rfl

theorem laws_eqTable.l0_eq {ρ : Type} (N : Nat) (K : AV → Heap → Option ρ) (a0 : Nat → Int) (b1 : Nat → Int) :
    ∀ (m : Nat) (i2 : Int), xloop (xcode (E112 N) ents laws_eqTable.kp 0 N (cL (cK (cB (cA (cB laws_eqTable.bd))))) 0) laws_eqTable.kp 0 0 m (laws_eqTable.st0 a0 b1 i2) (laws_eqTable.k0 N K) = (laws_eqTable.l0 N (fun d0 => K (.bool (d0)) []) a0 b1 ((laws_eqTable.k0 N K) (.exit 0) (laws_eqTable.sx0_0 a0 b1)) m i2) := by
  intro m
  induction m with
  | zero => intros; rfl
  | succ m ih =>
    intro i2
    refine (laws_eqTable.b0_eq N K (fun s => xloop (xcode (E112 N) ents laws_eqTable.kp 0 N (cL (cK (cB (cA (cB laws_eqTable.bd))))) 0) laws_eqTable.kp 0 0 m s (laws_eqTable.k0 N K)) a0 b1 i2).trans ?_
    simp only [ih]
    kernel_rfl

theorem laws_eqTable.s_eq {ρ : Type} (N : Nat) (K : AV → Heap → Option ρ) (a0 : Nat → Int) (b1 : Nat → Int) :
    xbody (E112 N) ents laws_eqTable.kp N Go.Proofs.Try.f52 laws_eqTable.bd [.agg [⟨.u8, 512, a0⟩], .agg [⟨.u8, 512, b1⟩]] [] K = (laws_eqTable.s N (fun d0 => K (.bool (d0)) []) (fun i2 => xloop (xcode (E112 N) ents laws_eqTable.kp 0 N (cL (cK (cB (cA (cB laws_eqTable.bd))))) 0) laws_eqTable.kp 0 0 N (laws_eqTable.st0 a0 b1 i2) (laws_eqTable.k0 N K))) := by kernel_rfl

theorem laws_eqTable.eq {ρ : Type} (N : Nat) (K : AV → Heap → Option ρ) (a0 : Nat → Int) (b1 : Nat → Int) :
    xbody (E112 N) ents laws_eqTable.kp N Go.Proofs.Try.f52 laws_eqTable.bd [.agg [⟨.u8, 512, a0⟩], .agg [⟨.u8, 512, b1⟩]] [] K = (laws_eqTable N (fun d0 => K (.bool (d0)) []) a0 b1) := by
  refine (laws_eqTable.s_eq N K a0 b1).trans ?_
  simp only [laws_eqTable.l0_eq, laws_eqTable.a0_0_eq]
  kernel_rfl

noncomputable def laws_eqTable.en (N : Nat) (ρ : Type) : List AV → Heap → (AV → Heap → Option ρ) → Option ρ
  | [.agg [⟨.u8, 512, a0⟩], .agg [⟨.u8, 512, b1⟩]], [], K => (laws_eqTable N (fun d0 => K (.bool (d0)) []) a0 b1)
  | _, _, _ => none

theorem laws_eqTable.en_ok (N : Nat) (hE : EnvOk (E112 N) ents) (ρ : Type) (args : List AV) (sh : Heap) (K : AV → Heap → Option ρ) (r : ρ) (h : laws_eqTable.en N ρ args sh K = some r) : ∃ v sh', K v sh' = some r ∧ FnOk (E112 N).P 52 args sh v sh' := by
  unfold laws_eqTable.en at h
  split at h
  · exact fn_ok hE (kp := laws_eqTable.kp) (N := N) Go.Proofs.Try.func52 (c := laws_eqTable.bd) (by kernel_rfl) ((laws_eqTable.eq N _ _ _).trans h)
  · cases h

noncomputable def E113 (N : Nat) : Env := (E112 N).add 52 (laws_eqTable.en N)

theorem E113_ok (N : Nat) : EnvOk (E113 N) ents := Env.add_ok (E112_ok N) (laws_eqTable.en_ok N (E112_ok N))

noncomputable def laws_eqComodule.kp : Keeps := ⟨[], []⟩

noncomputable def laws_eqComodule.bd : Code := bodyOf Go.Proofs.Try.f28

noncomputable def laws_eqComodule.fin {ρ : Type} (N : Nat) (K : AV → Heap → Option ρ) : XE → St → Option ρ := finK (E113 N) Go.Proofs.Try.f28 [] K

theorem laws_eqComodule.eq {ρ : Type} (N : Nat) (K : AV → Heap → Option ρ) (a0 : Nat → Int) (a1 : Nat → Int) (b2 : Nat → Int) (b3 : Nat → Int) :
    xbody (E113 N) ents laws_eqComodule.kp N Go.Proofs.Try.f28 laws_eqComodule.bd [.agg [⟨.i64, 1, a0⟩, ⟨.u8, 512, a1⟩], .agg [⟨.i64, 1, b2⟩, ⟨.u8, 512, b3⟩]] [] K = (laws_eqComodule N (fun d0 => K (.bool (d0)) []) a0 a1 b2 b3) := by kernel_rfl

noncomputable def laws_eqComodule.en (N : Nat) (ρ : Type) : List AV → Heap → (AV → Heap → Option ρ) → Option ρ
  | [.agg [⟨.i64, 1, a0⟩, ⟨.u8, 512, a1⟩], .agg [⟨.i64, 1, b2⟩, ⟨.u8, 512, b3⟩]], [], K => (laws_eqComodule N (fun d0 => K (.bool (d0)) []) a0 a1 b2 b3)
  | _, _, _ => none

theorem laws_eqComodule.en_ok (N : Nat) (hE : EnvOk (E113 N) ents) (ρ : Type) (args : List AV) (sh : Heap) (K : AV → Heap → Option ρ) (r : ρ) (h : laws_eqComodule.en N ρ args sh K = some r) : ∃ v sh', K v sh' = some r ∧ FnOk (E113 N).P 28 args sh v sh' := by
  unfold laws_eqComodule.en at h
  split at h
  · exact fn_ok hE (kp := laws_eqComodule.kp) (N := N) Go.Proofs.Try.func28 (c := laws_eqComodule.bd) (by kernel_rfl) ((laws_eqComodule.eq N _ _ _ _ _).trans h)
  · cases h

noncomputable def E114 (N : Nat) : Env := (E113 N).add 28 (laws_eqComodule.en N)

theorem E114_ok (N : Nat) : EnvOk (E114 N) ents := Env.add_ok (E113_ok N) (laws_eqComodule.en_ok N (E113_ok N))

noncomputable def laws_FnExactRegularComodule.kp : Keeps := ⟨[], []⟩

noncomputable def laws_FnExactRegularComodule.bd : Code := bodyOf Go.Proofs.Try.f9

noncomputable def laws_FnExactRegularComodule.fin {ρ : Type} (N : Nat) (K : AV → Heap → Option ρ) : XE → St → Option ρ := finK (E114 N) Go.Proofs.Try.f9 [] K

theorem laws_FnExactRegularComodule.eq {ρ : Type} (N : Nat) (K : AV → Heap → Option ρ) (aH0 : Nat → Int) (aH1 : Nat → Int) :
    xbody (E114 N) ents laws_FnExactRegularComodule.kp N Go.Proofs.Try.f9 laws_FnExactRegularComodule.bd [.agg [⟨.i64, 2, aH0⟩, ⟨.u8, 1104, aH1⟩]] [] K = (laws_FnExactRegularComodule N (fun d0 => K (.bool (d0)) []) aH0 aH1) := by kernel_rfl

noncomputable def laws_FnExactRegularComodule.en (N : Nat) (ρ : Type) : List AV → Heap → (AV → Heap → Option ρ) → Option ρ
  | [.agg [⟨.i64, 2, aH0⟩, ⟨.u8, 1104, aH1⟩]], [], K => (laws_FnExactRegularComodule N (fun d0 => K (.bool (d0)) []) aH0 aH1)
  | _, _, _ => none

theorem laws_FnExactRegularComodule.en_ok (N : Nat) (hE : EnvOk (E114 N) ents) (ρ : Type) (args : List AV) (sh : Heap) (K : AV → Heap → Option ρ) (r : ρ) (h : laws_FnExactRegularComodule.en N ρ args sh K = some r) : ∃ v sh', K v sh' = some r ∧ FnOk (E114 N).P 9 args sh v sh' := by
  unfold laws_FnExactRegularComodule.en at h
  split at h
  · exact fn_ok hE (kp := laws_FnExactRegularComodule.kp) (N := N) Go.Proofs.Try.func9 (c := laws_FnExactRegularComodule.bd) (by kernel_rfl) ((laws_FnExactRegularComodule.eq N _ _ _).trans h)
  · cases h

noncomputable def E115 (N : Nat) : Env := (E114 N).add 9 (laws_FnExactRegularComodule.en N)

theorem E115_ok (N : Nat) : EnvOk (E115 N) ents := Env.add_ok (E114_ok N) (laws_FnExactRegularComodule.en_ok N (E114_ok N))
end Go.Proofs.Ytacdnmdfoimjcaa.H
