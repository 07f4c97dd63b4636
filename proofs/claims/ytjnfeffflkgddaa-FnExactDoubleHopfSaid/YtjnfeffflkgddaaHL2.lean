/- The program computes these functions. -/
import Derived.Test.YtjnfeffflkgddaaHL1
namespace Go.Proofs.Ytjnfeffflkgddaa.H
set_option linter.unusedVariables false
set_option linter.unusedSimpArgs false
open Go Go.RowKit Go.Proofs.Ytjnfeffflkgddaa.Hx
set_option linter.unusedVariables false
set_option maxRecDepth 100000
noncomputable def laws_eqTable.kp : Keeps := ⟨[(0, [2, 3, 5], 2)], [(0, [], 2)]⟩

noncomputable def laws_eqTable.bd : Code := bodyOf Go.Proofs.Try.f12

noncomputable def laws_eqTable.fin {ρ : Type} (N : Nat) (K : AV → Heap → Option ρ) : XE → St → Option ρ := finK (E30 N) Go.Proofs.Try.f12 [] K

noncomputable def laws_eqTable.k0 {ρ : Type} (N : Nat) (K : AV → Heap → Option ρ) : XE → St → Option ρ := (blockK laws_eqTable.kp 0 0 (seqK (xcode (E30 N) ents laws_eqTable.kp 0 N (cB (cB laws_eqTable.bd)) 0) (laws_eqTable.fin N K)))

theorem laws_eqTable.k0_mix {ρ : Type} (N : Nat) (K : AV → Heap → Option ρ) : mixK (laws_eqTable.fin N K .ret) (laws_eqTable.k0 N K) = (laws_eqTable.k0 N K) := by
  funext e s; cases e <;> rfl

noncomputable def laws_eqTable.st0 (a0 : Nat → Int) (b1 : Nat → Int) (i2 : Int) : St := ⟨sl 18 [(2, .sptr [(0, 512)]), (3, .sptr [(1, 512)]), (5, .int .i64 (i2))], [⟨true, .ints .u8 512 a0⟩, ⟨true, .ints .u8 512 b1⟩]⟩

noncomputable def laws_eqTable.sx0_0 (a0 : Nat → Int) (b1 : Nat → Int) : St := ⟨sl 18 [], [⟨true, .ints .u8 512 a0⟩, ⟨true, .ints .u8 512 b1⟩]⟩

theorem laws_eqTable.b0_gen {ρ : Type} (N : Nat) (K : AV → Heap → Option ρ) (L0 : St → Option ρ) (kv : XE → St → Option ρ) (a0 : Nat → Int) (b1 : Nat → Int) (i2 : Int) :
    xcode (E30 N) ents laws_eqTable.kp 0 N (cL (cK (cB (cA (cB laws_eqTable.bd))))) 0 (laws_eqTable.st0 a0 b1 i2) (roundK laws_eqTable.kp 0 0 L0 (mixK (laws_eqTable.fin N K .ret) kv)) = (laws_eqTable.b0 N (fun d0 => K (.bool (d0)) []) (fun i2 => L0 (laws_eqTable.st0 a0 b1 i2)) (kv (.exit 0) (laws_eqTable.sx0_0 a0 b1)) a0 b1 i2) := by kernel_rfl

theorem laws_eqTable.b0_eq {ρ : Type} (N : Nat) (K : AV → Heap → Option ρ) (L0 : St → Option ρ) (a0 : Nat → Int) (b1 : Nat → Int) (i2 : Int) :
    xcode (E30 N) ents laws_eqTable.kp 0 N (cL (cK (cB (cA (cB laws_eqTable.bd))))) 0 (laws_eqTable.st0 a0 b1 i2) (roundK laws_eqTable.kp 0 0 L0 (laws_eqTable.k0 N K)) = (laws_eqTable.b0 N (fun d0 => K (.bool (d0)) []) (fun i2 => L0 (laws_eqTable.st0 a0 b1 i2)) ((laws_eqTable.k0 N K) (.exit 0) (laws_eqTable.sx0_0 a0 b1)) a0 b1 i2) := by
  have h := laws_eqTable.b0_gen N K L0 (laws_eqTable.k0 N K) a0 b1 i2
  rw [laws_eqTable.k0_mix] at h
  exact h

theorem laws_eqTable.a0_0_eq {ρ : Type} (N : Nat) (K : AV → Heap → Option ρ) (a0 : Nat → Int) (b1 : Nat → Int) :
    (laws_eqTable.k0 N K) (.exit 0) (laws_eqTable.sx0_0 a0 b1) = (laws_eqTable.a0_0 N (fun d0 => K (.bool (d0)) [])) := by kernel_rfl

theorem laws_eqTable.l0_eq {ρ : Type} (N : Nat) (K : AV → Heap → Option ρ) (a0 : Nat → Int) (b1 : Nat → Int) :
    ∀ (m : Nat) (i2 : Int), xloop (xcode (E30 N) ents laws_eqTable.kp 0 N (cL (cK (cB (cA (cB laws_eqTable.bd))))) 0) laws_eqTable.kp 0 0 m (laws_eqTable.st0 a0 b1 i2) (laws_eqTable.k0 N K) = (laws_eqTable.l0 N (fun d0 => K (.bool (d0)) []) a0 b1 ((laws_eqTable.k0 N K) (.exit 0) (laws_eqTable.sx0_0 a0 b1)) m i2) := by
  intro m
  induction m with
  | zero => intros; rfl
  | succ m ih =>
    intro i2
    refine (laws_eqTable.b0_eq N K (fun s => xloop (xcode (E30 N) ents laws_eqTable.kp 0 N (cL (cK (cB (cA (cB laws_eqTable.bd))))) 0) laws_eqTable.kp 0 0 m s (laws_eqTable.k0 N K)) a0 b1 i2).trans ?_
    simp only [ih]
    kernel_rfl

theorem laws_eqTable.s_eq {ρ : Type} (N : Nat) (K : AV → Heap → Option ρ) (a0 : Nat → Int) (b1 : Nat → Int) :
    xbody (E30 N) ents laws_eqTable.kp N Go.Proofs.Try.f12 laws_eqTable.bd [.agg [⟨.u8, 512, a0⟩], .agg [⟨.u8, 512, b1⟩]] [] K = (laws_eqTable.s N (fun d0 => K (.bool (d0)) []) (fun i2 => xloop (xcode (E30 N) ents laws_eqTable.kp 0 N (cL (cK (cB (cA (cB laws_eqTable.bd))))) 0) laws_eqTable.kp 0 0 N (laws_eqTable.st0 a0 b1 i2) (laws_eqTable.k0 N K))) := by kernel_rfl

theorem laws_eqTable.eq {ρ : Type} (N : Nat) (K : AV → Heap → Option ρ) (a0 : Nat → Int) (b1 : Nat → Int) :
    xbody (E30 N) ents laws_eqTable.kp N Go.Proofs.Try.f12 laws_eqTable.bd [.agg [⟨.u8, 512, a0⟩], .agg [⟨.u8, 512, b1⟩]] [] K = (laws_eqTable N (fun d0 => K (.bool (d0)) []) a0 b1) := by
  refine (laws_eqTable.s_eq N K a0 b1).trans ?_
  simp only [laws_eqTable.l0_eq, laws_eqTable.a0_0_eq]
  kernel_rfl

noncomputable def laws_eqTable.en (N : Nat) (ρ : Type) : List AV → Heap → (AV → Heap → Option ρ) → Option ρ
  | [.agg [⟨.u8, 512, a0⟩], .agg [⟨.u8, 512, b1⟩]], [], K => (laws_eqTable N (fun d0 => K (.bool (d0)) []) a0 b1)
  | _, _, _ => none

theorem laws_eqTable.en_ok (N : Nat) (hE : EnvOk (E30 N) ents) (ρ : Type) (args : List AV) (sh : Heap) (K : AV → Heap → Option ρ) (r : ρ) (h : laws_eqTable.en N ρ args sh K = some r) : ∃ v sh', K v sh' = some r ∧ FnOk (E30 N).P 12 args sh v sh' := by
  unfold laws_eqTable.en at h
  split at h
  · exact fn_ok hE (kp := laws_eqTable.kp) (N := N) Go.Proofs.Try.func12 (c := laws_eqTable.bd) (by kernel_rfl) ((laws_eqTable.eq N _ _ _).trans h)
  · cases h

noncomputable def E31 (N : Nat) : Env := (E30 N).add 12 (laws_eqTable.en N)

theorem E31_ok (N : Nat) : EnvOk (E31 N) ents := Env.add_ok (E30_ok N) (laws_eqTable.en_ok N (E30_ok N))

noncomputable def laws_eqHopf.kp : Keeps := ⟨[], []⟩

noncomputable def laws_eqHopf.bd : Code := bodyOf Go.Proofs.Try.f6

noncomputable def laws_eqHopf.fin {ρ : Type} (N : Nat) (K : AV → Heap → Option ρ) : XE → St → Option ρ := finK (E31 N) Go.Proofs.Try.f6 [] K

theorem laws_eqHopf.eq {ρ : Type} (N : Nat) (K : AV → Heap → Option ρ) (a0 : Nat → Int) (a1 : Nat → Int) (b2 : Nat → Int) (b3 : Nat → Int) :
    xbody (E31 N) ents laws_eqHopf.kp N Go.Proofs.Try.f6 laws_eqHopf.bd [.agg [⟨.i64, 2, a0⟩, ⟨.u8, 1104, a1⟩], .agg [⟨.i64, 2, b2⟩, ⟨.u8, 1104, b3⟩]] [] K = (laws_eqHopf N (fun d0 => K (.bool (d0)) []) a0 a1 b2 b3) := by kernel_rfl

noncomputable def laws_eqHopf.en (N : Nat) (ρ : Type) : List AV → Heap → (AV → Heap → Option ρ) → Option ρ
  | [.agg [⟨.i64, 2, a0⟩, ⟨.u8, 1104, a1⟩], .agg [⟨.i64, 2, b2⟩, ⟨.u8, 1104, b3⟩]], [], K => (laws_eqHopf N (fun d0 => K (.bool (d0)) []) a0 a1 b2 b3)
  | _, _, _ => none

theorem laws_eqHopf.en_ok (N : Nat) (hE : EnvOk (E31 N) ents) (ρ : Type) (args : List AV) (sh : Heap) (K : AV → Heap → Option ρ) (r : ρ) (h : laws_eqHopf.en N ρ args sh K = some r) : ∃ v sh', K v sh' = some r ∧ FnOk (E31 N).P 6 args sh v sh' := by
  unfold laws_eqHopf.en at h
  split at h
  · exact fn_ok hE (kp := laws_eqHopf.kp) (N := N) Go.Proofs.Try.func6 (c := laws_eqHopf.bd) (by kernel_rfl) ((laws_eqHopf.eq N _ _ _ _ _).trans h)
  · cases h

noncomputable def E32 (N : Nat) : Env := (E31 N).add 6 (laws_eqHopf.en N)

theorem E32_ok (N : Nat) : EnvOk (E32 N) ents := Env.add_ok (E31_ok N) (laws_eqHopf.en_ok N (E31_ok N))

noncomputable def laws_FnExactDoubleHopf.kp : Keeps := ⟨[], []⟩

noncomputable def laws_FnExactDoubleHopf.bd : Code := bodyOf Go.Proofs.Try.f3

noncomputable def laws_FnExactDoubleHopf.fin {ρ : Type} (N : Nat) (K : AV → Heap → Option ρ) : XE → St → Option ρ := finK (E32 N) Go.Proofs.Try.f3 [] K

theorem laws_FnExactDoubleHopf.eq {ρ : Type} (N : Nat) (K : AV → Heap → Option ρ) (aP0 : Int) :
    xbody (E32 N) ents laws_FnExactDoubleHopf.kp N Go.Proofs.Try.f3 laws_FnExactDoubleHopf.bd [.int .i64 (aP0)] [] K = (laws_FnExactDoubleHopf N (fun d0 => K (.bool (d0)) []) aP0) := by kernel_rfl

noncomputable def laws_FnExactDoubleHopf.en (N : Nat) (ρ : Type) : List AV → Heap → (AV → Heap → Option ρ) → Option ρ
  | [.int .i64 (aP0)], [], K => (laws_FnExactDoubleHopf N (fun d0 => K (.bool (d0)) []) aP0)
  | _, _, _ => none

theorem laws_FnExactDoubleHopf.en_ok (N : Nat) (hE : EnvOk (E32 N) ents) (ρ : Type) (args : List AV) (sh : Heap) (K : AV → Heap → Option ρ) (r : ρ) (h : laws_FnExactDoubleHopf.en N ρ args sh K = some r) : ∃ v sh', K v sh' = some r ∧ FnOk (E32 N).P 3 args sh v sh' := by
  unfold laws_FnExactDoubleHopf.en at h
  split at h
  · exact fn_ok hE (kp := laws_FnExactDoubleHopf.kp) (N := N) Go.Proofs.Try.func3 (c := laws_FnExactDoubleHopf.bd) (by kernel_rfl) ((laws_FnExactDoubleHopf.eq N _ _).trans h)
  · cases h

noncomputable def E33 (N : Nat) : Env := (E32 N).add 3 (laws_FnExactDoubleHopf.en N)

theorem E33_ok (N : Nat) : EnvOk (E33 N) ents := Env.add_ok (E32_ok N) (laws_FnExactDoubleHopf.en_ok N (E32_ok N))
end Go.Proofs.Ytjnfeffflkgddaa.H
