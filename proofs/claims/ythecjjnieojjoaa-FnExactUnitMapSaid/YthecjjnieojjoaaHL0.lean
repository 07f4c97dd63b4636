/- The program computes these functions. -/
import Derived.Test.YthecjjnieojjoaaHP0
import Derived.Test.YthecjjnieojjoaaChecked
import Derived.KernelRfl
namespace Go.Proofs.Ythecjjnieojjoaa.H
set_option linter.unusedVariables false
set_option linter.unusedSimpArgs false
open Go Go.RowKit Go.Proofs.Ythecjjnieojjoaa.Hx
set_option linter.unusedVariables false
set_option maxRecDepth 100000
noncomputable def lays : List Lay := [.other, .func, .int .i64, .int .i64, .bool, .int .u8, .int .u8, .other, .other, .str, .str, .str, .int .u64, .other, .other, .ptr, .ptr, .ptr, .other, .other, .other, .int .i32, .arr 8 5 1 .u8, .arr 8 22 8 .u8, .arr 8 23 64 .u8, .struct [(0, 1, false), (1, 1, false), (2, 8, true), (10, 512, true)] [(.i64, 2), (.u8, 520)], .struct [(0, 1, false), (1, 1, false), (2, 8, true), (10, 512, true)] [(.i64, 2), (.u8, 520)], .func, .arr 8 5 1 .u8, .arr 8 28 8 .u8, .arr 8 28 8 .u8, .arr 8 30 64 .u8, .arr 8 30 64 .u8, .struct [(0, 1, false), (1, 1, false), (2, 8, true), (10, 512, true)] [(.i64, 2), (.u8, 520)], .struct [(0, 1, false), (1, 1, false), (2, 8, true), (10, 512, true)] [(.i64, 2), (.u8, 520)], .func, .func, .slice 2 1 8, .other, .func, .func, .func, .other, .func, .func, .func, .other, .func, .other, .func, .func, .struct [(0, 1, false), (1, 1, false), (2, 8, true), (10, 512, true)] [(.i64, 2), (.u8, 520)], .struct [(0, 1, false), (1, 1, false), (2, 8, true), (10, 512, true)] [(.i64, 2), (.u8, 520)], .other, .func, .func, .func, .slice 28 8 8, .other, .func, .func, .func, .struct [(0, 1, false), (1, 1, false), (2, 8, true), (10, 512, true)] [(.i64, 2), (.u8, 520)], .struct [(0, 1, false), (1, 1, false), (2, 8, true), (10, 512, true)] [(.i64, 2), (.u8, 520)], .func, .func, .func, .func, .slice 22 8 8, .func, .func, .func, .func, .func, .func, .func, .func, .func, .other, .func, .func, .func, .func, .func, .struct [(0, 1, false), (1, 1, false)] [(.i64, 2)], .struct [(0, 1, false), (1, 1, false)] [(.i64, 2)], .func, .func, .func, .ptr, .func, .func, .func, .func, .func, .ptr, .func, .func, .func, .func, .func, .func, .func, .func, .ptr, .ptr, .func, .func, .func, .func, .func, .func, .func, .func, .func, .func, .func, .func, .func, .func, .func, .func, .ptr, .func, .func, .func, .func, .other, .func, .func, .func, .func, .slice 30 64 64, .func, .func, .func, .slice 89 1 8, .func, .func, .ptr, .func, .slice 145 1 24, .slice 3 1 8, .other, .other, .slice 5 1 1, .func, .func, .func, .func, .func, .func, .func, .func, .func, .func, .func, .func, .func, .func, .func, .func, .func, .func, .func, .func, .func, .func, .func, .other, .func, .func, .func, .func, .func, .func, .func, .other, .other, .other, .other, .other, .func, .int .u32, .int .u8, .int .u8, .func, .ptr, .int .i32, .int .i32, .other, .other, .func, .other]

noncomputable def wrs : List (FuncId × List Bool) := [(21, [true]), (97, [false, true])]

noncomputable def ents : List FuncId := [24, 94, 54, 16, 130, 129, 100, 101, 131, 102, 58, 109, 103, 59, 78, 125, 93, 53, 15, 126, 127, 95, 111, 96, 55, 64, 128, 97, 65, 98, 56, 99, 57, 17, 3, 18, 60, 19, 20, 21, 22, 4, 61, 62, 23, 132, 146, 118, 104, 63, 25, 5, 26, 66, 27, 6, 67, 28, 68, 29, 69, 30, 7, 70, 31, 71, 32, 72, 33, 8, 105, 73, 34, 81, 106, 74, 35, 9, 42, 133, 149, 134, 135, 107, 77, 41, 136, 80, 137, 138, 110, 90, 79, 43, 11]

noncomputable def E0 (N : Nat) : Env := env0 Go.Proofs.Try.prog lays wrs

theorem E0_ok (N : Nat) : EnvOk (E0 N) ents := env0_ok (by kernel_rfl) (by kernel_rfl) (by kernel_rfl)

noncomputable def laws_toVector.kp : Keeps := ⟨[(0, [1, 2, 3, 4], 3)], [(0, [2, 3], 3)]⟩

noncomputable def laws_toVector.bd : Code := bodyOf Go.Proofs.Try.f24

noncomputable def laws_toVector.fin {ρ : Type} (N : Nat) (K : AV → Heap → Option ρ) : XE → St → Option ρ := finK (E0 N) Go.Proofs.Try.f24 [] K

noncomputable def laws_toVector.k0 {ρ : Type} (N : Nat) (K : AV → Heap → Option ρ) : XE → St → Option ρ := (blockK laws_toVector.kp 0 0 (seqK (xcode (E0 N) ents laws_toVector.kp 0 N (cB (cB (cB laws_toVector.bd))) 0) (laws_toVector.fin N K)))

theorem laws_toVector.k0_mix {ρ : Type} (N : Nat) (K : AV → Heap → Option ρ) : mixK (laws_toVector.fin N K .ret) (laws_toVector.k0 N K) = (laws_toVector.k0 N K) := by
  funext e s; cases e <;> rfl

noncomputable def laws_toVector.st0 (a0 : Nat → Int) (i1 : Int) (g2 : Nat → Int) : St := ⟨sl 15 [(1, .sptr [(0, 8)]), (2, .sptr [(1, 8)]), (3, .sptr [(2, 8)]), (4, .int .i64 (i1))], [⟨true, .ints .u8 8 a0⟩, ⟨true, .ints .u8 8 (fun _ => 0)⟩, ⟨true, .ints .u8 8 g2⟩]⟩

noncomputable def laws_toVector.sx0_0 (a0 : Nat → Int) (o3 : Nat → Int) : St := ⟨sl 15 [(2, .sptr [(1, 8)]), (3, .sptr [(2, 8)])], [⟨true, .ints .u8 8 a0⟩, ⟨true, .ints .u8 8 (fun _ => 0)⟩, ⟨true, .ints .u8 8 o3⟩]⟩

theorem laws_toVector.b0_gen {ρ : Type} (N : Nat) (K : AV → Heap → Option ρ) (L0 : St → Option ρ) (kv : XE → St → Option ρ) (a0 : Nat → Int) (i1 : Int) (g2 : Nat → Int) :
    xcode (E0 N) ents laws_toVector.kp 0 N (cL (cK (cB (cA (cB (cB laws_toVector.bd)))))) 0 (laws_toVector.st0 a0 i1 g2) (roundK laws_toVector.kp 0 0 L0 (mixK (laws_toVector.fin N K .ret) kv)) = (laws_toVector.b0 N (fun d0 => K (.agg [⟨.u8, 8, d0⟩]) []) (fun i1 g2 => L0 (laws_toVector.st0 a0 i1 g2)) (fun o3 => kv (.exit 0) (laws_toVector.sx0_0 a0 o3)) a0 i1 g2) := by kernel_rfl

theorem laws_toVector.b0_eq {ρ : Type} (N : Nat) (K : AV → Heap → Option ρ) (L0 : St → Option ρ) (a0 : Nat → Int) (i1 : Int) (g2 : Nat → Int) :
    xcode (E0 N) ents laws_toVector.kp 0 N (cL (cK (cB (cA (cB (cB laws_toVector.bd)))))) 0 (laws_toVector.st0 a0 i1 g2) (roundK laws_toVector.kp 0 0 L0 (laws_toVector.k0 N K)) = (laws_toVector.b0 N (fun d0 => K (.agg [⟨.u8, 8, d0⟩]) []) (fun i1 g2 => L0 (laws_toVector.st0 a0 i1 g2)) (fun o3 => (laws_toVector.k0 N K) (.exit 0) (laws_toVector.sx0_0 a0 o3)) a0 i1 g2) := by
  have h := laws_toVector.b0_gen N K L0 (laws_toVector.k0 N K) a0 i1 g2
  rw [laws_toVector.k0_mix] at h
  exact h

theorem laws_toVector.a0_0_eq {ρ : Type} (N : Nat) (K : AV → Heap → Option ρ) (a0 : Nat → Int) (o3 : Nat → Int) :
    (laws_toVector.k0 N K) (.exit 0) (laws_toVector.sx0_0 a0 o3) = (laws_toVector.a0_0 N (fun d0 => K (.agg [⟨.u8, 8, d0⟩]) []) o3) := by kernel_rfl

theorem laws_toVector.l0_eq {ρ : Type} (N : Nat) (K : AV → Heap → Option ρ) (a0 : Nat → Int) :
    ∀ (m : Nat) (i1 : Int) (g2 : Nat → Int), xloop (xcode (E0 N) ents laws_toVector.kp 0 N (cL (cK (cB (cA (cB (cB laws_toVector.bd)))))) 0) laws_toVector.kp 0 0 m (laws_toVector.st0 a0 i1 g2) (laws_toVector.k0 N K) = (laws_toVector.l0 N (fun d0 => K (.agg [⟨.u8, 8, d0⟩]) []) a0 (fun o3 => (laws_toVector.k0 N K) (.exit 0) (laws_toVector.sx0_0 a0 o3)) m i1 g2) := by
  intro m
  induction m with
  | zero => intros; rfl
  | succ m ih =>
    intro i1 g2
    refine (laws_toVector.b0_eq N K (fun s => xloop (xcode (E0 N) ents laws_toVector.kp 0 N (cL (cK (cB (cA (cB (cB laws_toVector.bd)))))) 0) laws_toVector.kp 0 0 m s (laws_toVector.k0 N K)) a0 i1 g2).trans ?_
    simp only [ih]
    kernel_rfl

theorem laws_toVector.s_eq {ρ : Type} (N : Nat) (K : AV → Heap → Option ρ) (a0 : Nat → Int) :
    xbody (E0 N) ents laws_toVector.kp N Go.Proofs.Try.f24 laws_toVector.bd [.agg [⟨.u8, 8, a0⟩]] [] K = (laws_toVector.s N (fun d0 => K (.agg [⟨.u8, 8, d0⟩]) []) (fun i1 g2 => xloop (xcode (E0 N) ents laws_toVector.kp 0 N (cL (cK (cB (cA (cB (cB laws_toVector.bd)))))) 0) laws_toVector.kp 0 0 N (laws_toVector.st0 a0 i1 g2) (laws_toVector.k0 N K))) := by kernel_rfl

theorem laws_toVector.eq {ρ : Type} (N : Nat) (K : AV → Heap → Option ρ) (a0 : Nat → Int) :
    xbody (E0 N) ents laws_toVector.kp N Go.Proofs.Try.f24 laws_toVector.bd [.agg [⟨.u8, 8, a0⟩]] [] K = (laws_toVector N (fun d0 => K (.agg [⟨.u8, 8, d0⟩]) []) a0) := by
  refine (laws_toVector.s_eq N K a0).trans ?_
  simp only [laws_toVector.l0_eq, laws_toVector.a0_0_eq]
  kernel_rfl

noncomputable def laws_toVector.en (N : Nat) (ρ : Type) : List AV → Heap → (AV → Heap → Option ρ) → Option ρ
  | [.agg [⟨.u8, 8, a0⟩]], [], K => (laws_toVector N (fun d0 => K (.agg [⟨.u8, 8, d0⟩]) []) a0)
  | _, _, _ => none

theorem laws_toVector.en_ok (N : Nat) (hE : EnvOk (E0 N) ents) (ρ : Type) (args : List AV) (sh : Heap) (K : AV → Heap → Option ρ) (r : ρ) (h : laws_toVector.en N ρ args sh K = some r) : ∃ v sh', K v sh' = some r ∧ FnOk (E0 N).P 24 args sh v sh' := by
  unfold laws_toVector.en at h
  split at h
  · exact fn_ok hE (kp := laws_toVector.kp) (N := N) Go.Proofs.Try.func24 (c := laws_toVector.bd) (by kernel_rfl) ((laws_toVector.eq N _ _).trans h)
  · cases h

noncomputable def E1 (N : Nat) : Env := (E0 N).add 24 (laws_toVector.en N)

theorem E1_ok (N : Nat) : EnvOk (E1 N) ents := Env.add_ok (E0_ok N) (laws_toVector.en_ok N (E0_ok N))

noncomputable def laws_toLinear.kp : Keeps := ⟨[(0, [1, 2, 3, 4], 3)], [(0, [2, 3], 3)]⟩

noncomputable def laws_toLinear.bd : Code := bodyOf Go.Proofs.Try.f94

noncomputable def laws_toLinear.fin {ρ : Type} (N : Nat) (K : AV → Heap → Option ρ) : XE → St → Option ρ := finK (E1 N) Go.Proofs.Try.f94 [] K

noncomputable def laws_toLinear.k0 {ρ : Type} (N : Nat) (K : AV → Heap → Option ρ) : XE → St → Option ρ := (blockK laws_toLinear.kp 0 0 (seqK (xcode (E1 N) ents laws_toLinear.kp 0 N (cB (cB (cB laws_toLinear.bd))) 0) (laws_toLinear.fin N K)))

theorem laws_toLinear.k0_mix {ρ : Type} (N : Nat) (K : AV → Heap → Option ρ) : mixK (laws_toLinear.fin N K .ret) (laws_toLinear.k0 N K) = (laws_toLinear.k0 N K) := by
  funext e s; cases e <;> rfl

noncomputable def laws_toLinear.st0 (a0 : Nat → Int) (i1 : Int) (g2 : Nat → Int) : St := ⟨sl 16 [(1, .sptr [(0, 64)]), (2, .sptr [(1, 64)]), (3, .sptr [(2, 64)]), (4, .int .i64 (i1))], [⟨true, .ints .u8 64 a0⟩, ⟨true, .ints .u8 64 (fun _ => 0)⟩, ⟨true, .ints .u8 64 g2⟩]⟩

noncomputable def laws_toLinear.sx0_0 (a0 : Nat → Int) (o4 : Nat → Int) : St := ⟨sl 16 [(2, .sptr [(1, 64)]), (3, .sptr [(2, 64)])], [⟨true, .ints .u8 64 a0⟩, ⟨true, .ints .u8 64 (fun _ => 0)⟩, ⟨true, .ints .u8 64 o4⟩]⟩

theorem laws_toLinear.b0_gen {ρ : Type} (N : Nat) (K : AV → Heap → Option ρ) (L0 : St → Option ρ) (kv : XE → St → Option ρ) (a0 : Nat → Int) (i1 : Int) (g2 : Nat → Int) :
    xcode (E1 N) ents laws_toLinear.kp 0 N (cL (cK (cB (cA (cB (cB laws_toLinear.bd)))))) 0 (laws_toLinear.st0 a0 i1 g2) (roundK laws_toLinear.kp 0 0 L0 (mixK (laws_toLinear.fin N K .ret) kv)) = (laws_toLinear.b0 N (fun d0 => K (.agg [⟨.u8, 64, d0⟩]) []) (fun i1 g2 => L0 (laws_toLinear.st0 a0 i1 g2)) (fun o4 => kv (.exit 0) (laws_toLinear.sx0_0 a0 o4)) a0 i1 g2) := by kernel_rfl

theorem laws_toLinear.b0_eq {ρ : Type} (N : Nat) (K : AV → Heap → Option ρ) (L0 : St → Option ρ) (a0 : Nat → Int) (i1 : Int) (g2 : Nat → Int) :
    xcode (E1 N) ents laws_toLinear.kp 0 N (cL (cK (cB (cA (cB (cB laws_toLinear.bd)))))) 0 (laws_toLinear.st0 a0 i1 g2) (roundK laws_toLinear.kp 0 0 L0 (laws_toLinear.k0 N K)) = (laws_toLinear.b0 N (fun d0 => K (.agg [⟨.u8, 64, d0⟩]) []) (fun i1 g2 => L0 (laws_toLinear.st0 a0 i1 g2)) (fun o4 => (laws_toLinear.k0 N K) (.exit 0) (laws_toLinear.sx0_0 a0 o4)) a0 i1 g2) := by
  have h := laws_toLinear.b0_gen N K L0 (laws_toLinear.k0 N K) a0 i1 g2
  rw [laws_toLinear.k0_mix] at h
  exact h

theorem laws_toLinear.a0_0_eq {ρ : Type} (N : Nat) (K : AV → Heap → Option ρ) (a0 : Nat → Int) (o4 : Nat → Int) :
    (laws_toLinear.k0 N K) (.exit 0) (laws_toLinear.sx0_0 a0 o4) = (laws_toLinear.a0_0 N (fun d0 => K (.agg [⟨.u8, 64, d0⟩]) []) o4) := by kernel_rfl

theorem laws_toLinear.l0_eq {ρ : Type} (N : Nat) (K : AV → Heap → Option ρ) (a0 : Nat → Int) :
    ∀ (m : Nat) (i1 : Int) (g2 : Nat → Int), xloop (xcode (E1 N) ents laws_toLinear.kp 0 N (cL (cK (cB (cA (cB (cB laws_toLinear.bd)))))) 0) laws_toLinear.kp 0 0 m (laws_toLinear.st0 a0 i1 g2) (laws_toLinear.k0 N K) = (laws_toLinear.l0 N (fun d0 => K (.agg [⟨.u8, 64, d0⟩]) []) a0 (fun o4 => (laws_toLinear.k0 N K) (.exit 0) (laws_toLinear.sx0_0 a0 o4)) m i1 g2) := by
  intro m
  induction m with
  | zero => intros; rfl
  | succ m ih =>
    intro i1 g2
    refine (laws_toLinear.b0_eq N K (fun s => xloop (xcode (E1 N) ents laws_toLinear.kp 0 N (cL (cK (cB (cA (cB (cB laws_toLinear.bd)))))) 0) laws_toLinear.kp 0 0 m s (laws_toLinear.k0 N K)) a0 i1 g2).trans ?_
    simp only [ih]
    kernel_rfl

theorem laws_toLinear.s_eq {ρ : Type} (N : Nat) (K : AV → Heap → Option ρ) (a0 : Nat → Int) :
    xbody (E1 N) ents laws_toLinear.kp N Go.Proofs.Try.f94 laws_toLinear.bd [.agg [⟨.u8, 64, a0⟩]] [] K = (laws_toLinear.s N (fun d0 => K (.agg [⟨.u8, 64, d0⟩]) []) (fun i1 g2 => xloop (xcode (E1 N) ents laws_toLinear.kp 0 N (cL (cK (cB (cA (cB (cB laws_toLinear.bd)))))) 0) laws_toLinear.kp 0 0 N (laws_toLinear.st0 a0 i1 g2) (laws_toLinear.k0 N K))) := by kernel_rfl

theorem laws_toLinear.eq {ρ : Type} (N : Nat) (K : AV → Heap → Option ρ) (a0 : Nat → Int) :
    xbody (E1 N) ents laws_toLinear.kp N Go.Proofs.Try.f94 laws_toLinear.bd [.agg [⟨.u8, 64, a0⟩]] [] K = (laws_toLinear N (fun d0 => K (.agg [⟨.u8, 64, d0⟩]) []) a0) := by
  refine (laws_toLinear.s_eq N K a0).trans ?_
  simp only [laws_toLinear.l0_eq, laws_toLinear.a0_0_eq]
  kernel_rfl

noncomputable def laws_toLinear.en (N : Nat) (ρ : Type) : List AV → Heap → (AV → Heap → Option ρ) → Option ρ
  | [.agg [⟨.u8, 64, a0⟩]], [], K => (laws_toLinear N (fun d0 => K (.agg [⟨.u8, 64, d0⟩]) []) a0)
  | _, _, _ => none

theorem laws_toLinear.en_ok (N : Nat) (hE : EnvOk (E1 N) ents) (ρ : Type) (args : List AV) (sh : Heap) (K : AV → Heap → Option ρ) (r : ρ) (h : laws_toLinear.en N ρ args sh K = some r) : ∃ v sh', K v sh' = some r ∧ FnOk (E1 N).P 94 args sh v sh' := by
  unfold laws_toLinear.en at h
  split at h
  · exact fn_ok hE (kp := laws_toLinear.kp) (N := N) Go.Proofs.Try.func94 (c := laws_toLinear.bd) (by kernel_rfl) ((laws_toLinear.eq N _ _).trans h)
  · cases h

noncomputable def E2 (N : Nat) : Env := (E1 N).add 94 (laws_toLinear.en N)

theorem E2_ok (N : Nat) : EnvOk (E2 N) ents := Env.add_ok (E1_ok N) (laws_toLinear.en_ok N (E1_ok N))

noncomputable def laws_toTable.kp : Keeps := ⟨[(0, [1, 2, 3, 4], 3)], [(0, [2, 3], 3)]⟩

noncomputable def laws_toTable.bd : Code := bodyOf Go.Proofs.Try.f54

noncomputable def laws_toTable.fin {ρ : Type} (N : Nat) (K : AV → Heap → Option ρ) : XE → St → Option ρ := finK (E2 N) Go.Proofs.Try.f54 [] K

noncomputable def laws_toTable.k0 {ρ : Type} (N : Nat) (K : AV → Heap → Option ρ) : XE → St → Option ρ := (blockK laws_toTable.kp 0 0 (seqK (xcode (E2 N) ents laws_toTable.kp 0 N (cB (cB (cB laws_toTable.bd))) 0) (laws_toTable.fin N K)))

theorem laws_toTable.k0_mix {ρ : Type} (N : Nat) (K : AV → Heap → Option ρ) : mixK (laws_toTable.fin N K .ret) (laws_toTable.k0 N K) = (laws_toTable.k0 N K) := by
  funext e s; cases e <;> rfl

noncomputable def laws_toTable.st0 (a0 : Nat → Int) (i1 : Int) (g2 : Nat → Int) : St := ⟨sl 16 [(1, .sptr [(0, 512)]), (2, .sptr [(1, 512)]), (3, .sptr [(2, 512)]), (4, .int .i64 (i1))], [⟨true, .ints .u8 512 a0⟩, ⟨true, .ints .u8 512 (fun _ => 0)⟩, ⟨true, .ints .u8 512 g2⟩]⟩

noncomputable def laws_toTable.sx0_0 (a0 : Nat → Int) (o4 : Nat → Int) : St := ⟨sl 16 [(2, .sptr [(1, 512)]), (3, .sptr [(2, 512)])], [⟨true, .ints .u8 512 a0⟩, ⟨true, .ints .u8 512 (fun _ => 0)⟩, ⟨true, .ints .u8 512 o4⟩]⟩

theorem laws_toTable.b0_gen {ρ : Type} (N : Nat) (K : AV → Heap → Option ρ) (L0 : St → Option ρ) (kv : XE → St → Option ρ) (a0 : Nat → Int) (i1 : Int) (g2 : Nat → Int) :
    xcode (E2 N) ents laws_toTable.kp 0 N (cL (cK (cB (cA (cB (cB laws_toTable.bd)))))) 0 (laws_toTable.st0 a0 i1 g2) (roundK laws_toTable.kp 0 0 L0 (mixK (laws_toTable.fin N K .ret) kv)) = (laws_toTable.b0 N (fun d0 => K (.agg [⟨.u8, 512, d0⟩]) []) (fun i1 g2 => L0 (laws_toTable.st0 a0 i1 g2)) (fun o4 => kv (.exit 0) (laws_toTable.sx0_0 a0 o4)) a0 i1 g2) := by kernel_rfl

theorem laws_toTable.b0_eq {ρ : Type} (N : Nat) (K : AV → Heap → Option ρ) (L0 : St → Option ρ) (a0 : Nat → Int) (i1 : Int) (g2 : Nat → Int) :
    xcode (E2 N) ents laws_toTable.kp 0 N (cL (cK (cB (cA (cB (cB laws_toTable.bd)))))) 0 (laws_toTable.st0 a0 i1 g2) (roundK laws_toTable.kp 0 0 L0 (laws_toTable.k0 N K)) = (laws_toTable.b0 N (fun d0 => K (.agg [⟨.u8, 512, d0⟩]) []) (fun i1 g2 => L0 (laws_toTable.st0 a0 i1 g2)) (fun o4 => (laws_toTable.k0 N K) (.exit 0) (laws_toTable.sx0_0 a0 o4)) a0 i1 g2) := by
  have h := laws_toTable.b0_gen N K L0 (laws_toTable.k0 N K) a0 i1 g2
  rw [laws_toTable.k0_mix] at h
  exact h

theorem laws_toTable.a0_0_eq {ρ : Type} (N : Nat) (K : AV → Heap → Option ρ) (a0 : Nat → Int) (o4 : Nat → Int) :
    (laws_toTable.k0 N K) (.exit 0) (laws_toTable.sx0_0 a0 o4) = (laws_toTable.a0_0 N (fun d0 => K (.agg [⟨.u8, 512, d0⟩]) []) o4) := by kernel_rfl

theorem laws_toTable.l0_eq {ρ : Type} (N : Nat) (K : AV → Heap → Option ρ) (a0 : Nat → Int) :
    ∀ (m : Nat) (i1 : Int) (g2 : Nat → Int), xloop (xcode (E2 N) ents laws_toTable.kp 0 N (cL (cK (cB (cA (cB (cB laws_toTable.bd)))))) 0) laws_toTable.kp 0 0 m (laws_toTable.st0 a0 i1 g2) (laws_toTable.k0 N K) = (laws_toTable.l0 N (fun d0 => K (.agg [⟨.u8, 512, d0⟩]) []) a0 (fun o4 => (laws_toTable.k0 N K) (.exit 0) (laws_toTable.sx0_0 a0 o4)) m i1 g2) := by
  intro m
  induction m with
  | zero => intros; rfl
  | succ m ih =>
    intro i1 g2
    refine (laws_toTable.b0_eq N K (fun s => xloop (xcode (E2 N) ents laws_toTable.kp 0 N (cL (cK (cB (cA (cB (cB laws_toTable.bd)))))) 0) laws_toTable.kp 0 0 m s (laws_toTable.k0 N K)) a0 i1 g2).trans ?_
    simp only [ih]
    kernel_rfl

theorem laws_toTable.s_eq {ρ : Type} (N : Nat) (K : AV → Heap → Option ρ) (a0 : Nat → Int) :
    xbody (E2 N) ents laws_toTable.kp N Go.Proofs.Try.f54 laws_toTable.bd [.agg [⟨.u8, 512, a0⟩]] [] K = (laws_toTable.s N (fun d0 => K (.agg [⟨.u8, 512, d0⟩]) []) (fun i1 g2 => xloop (xcode (E2 N) ents laws_toTable.kp 0 N (cL (cK (cB (cA (cB (cB laws_toTable.bd)))))) 0) laws_toTable.kp 0 0 N (laws_toTable.st0 a0 i1 g2) (laws_toTable.k0 N K))) := by kernel_rfl

theorem laws_toTable.eq {ρ : Type} (N : Nat) (K : AV → Heap → Option ρ) (a0 : Nat → Int) :
    xbody (E2 N) ents laws_toTable.kp N Go.Proofs.Try.f54 laws_toTable.bd [.agg [⟨.u8, 512, a0⟩]] [] K = (laws_toTable N (fun d0 => K (.agg [⟨.u8, 512, d0⟩]) []) a0) := by
  refine (laws_toTable.s_eq N K a0).trans ?_
  simp only [laws_toTable.l0_eq, laws_toTable.a0_0_eq]
  kernel_rfl

noncomputable def laws_toTable.en (N : Nat) (ρ : Type) : List AV → Heap → (AV → Heap → Option ρ) → Option ρ
  | [.agg [⟨.u8, 512, a0⟩]], [], K => (laws_toTable N (fun d0 => K (.agg [⟨.u8, 512, d0⟩]) []) a0)
  | _, _, _ => none

theorem laws_toTable.en_ok (N : Nat) (hE : EnvOk (E2 N) ents) (ρ : Type) (args : List AV) (sh : Heap) (K : AV → Heap → Option ρ) (r : ρ) (h : laws_toTable.en N ρ args sh K = some r) : ∃ v sh', K v sh' = some r ∧ FnOk (E2 N).P 54 args sh v sh' := by
  unfold laws_toTable.en at h
  split at h
  · exact fn_ok hE (kp := laws_toTable.kp) (N := N) Go.Proofs.Try.func54 (c := laws_toTable.bd) (by kernel_rfl) ((laws_toTable.eq N _ _).trans h)
  · cases h

noncomputable def E3 (N : Nat) : Env := (E2 N).add 54 (laws_toTable.en N)

theorem E3_ok (N : Nat) : EnvOk (E3 N) ents := Env.add_ok (E2_ok N) (laws_toTable.en_ok N (E2_ok N))

noncomputable def laws_toCoalgebra.kp : Keeps := ⟨[], []⟩

noncomputable def laws_toCoalgebra.bd : Code := bodyOf Go.Proofs.Try.f16

noncomputable def laws_toCoalgebra.fin {ρ : Type} (N : Nat) (K : AV → Heap → Option ρ) : XE → St → Option ρ := finK (E3 N) Go.Proofs.Try.f16 [] K

theorem laws_toCoalgebra.eq {ρ : Type} (N : Nat) (K : AV → Heap → Option ρ) (a0 : Nat → Int) (a1 : Nat → Int) :
    xbody (E3 N) ents laws_toCoalgebra.kp N Go.Proofs.Try.f16 laws_toCoalgebra.bd [.agg [⟨.i64, 2, a0⟩, ⟨.u8, 520, a1⟩]] [] K = (laws_toCoalgebra N (fun d0 d1 => K (.agg [⟨.i64, 2, d0⟩, ⟨.u8, 520, d1⟩]) []) a0 a1) := by kernel_rfl

noncomputable def laws_toCoalgebra.en (N : Nat) (ρ : Type) : List AV → Heap → (AV → Heap → Option ρ) → Option ρ
  | [.agg [⟨.i64, 2, a0⟩, ⟨.u8, 520, a1⟩]], [], K => (laws_toCoalgebra N (fun d0 d1 => K (.agg [⟨.i64, 2, d0⟩, ⟨.u8, 520, d1⟩]) []) a0 a1)
  | _, _, _ => none

theorem laws_toCoalgebra.en_ok (N : Nat) (hE : EnvOk (E3 N) ents) (ρ : Type) (args : List AV) (sh : Heap) (K : AV → Heap → Option ρ) (r : ρ) (h : laws_toCoalgebra.en N ρ args sh K = some r) : ∃ v sh', K v sh' = some r ∧ FnOk (E3 N).P 16 args sh v sh' := by
  unfold laws_toCoalgebra.en at h
  split at h
  · exact fn_ok hE (kp := laws_toCoalgebra.kp) (N := N) Go.Proofs.Try.func16 (c := laws_toCoalgebra.bd) (by kernel_rfl) ((laws_toCoalgebra.eq N _ _ _).trans h)
  · cases h

noncomputable def E4 (N : Nat) : Env := (E3 N).add 16 (laws_toCoalgebra.en N)

theorem E4_ok (N : Nat) : EnvOk (E4 N) ents := Env.add_ok (E3_ok N) (laws_toCoalgebra.en_ok N (E3_ok N))

noncomputable def spec_l01In.kp : Keeps := ⟨[], []⟩

noncomputable def spec_l01In.bd : Code := bodyOf Go.Proofs.Try.f130

noncomputable def spec_l01In.fin {ρ : Type} (N : Nat) (K : AV → Heap → Option ρ) : XE → St → Option ρ := finK (E4 N) Go.Proofs.Try.f130 [] K

theorem spec_l01In.eq {ρ : Type} (N : Nat) (K : AV → Heap → Option ρ) (n0 : Int) (low1 : Int) (high2 : Int) :
    xbody (E4 N) ents spec_l01In.kp N Go.Proofs.Try.f130 spec_l01In.bd [.int .i64 (n0), .int .i64 (low1), .int .i64 (high2)] [] K = (spec_l01In N (fun d0 => K (.bool (d0)) []) n0 low1 high2) := by kernel_rfl

noncomputable def spec_l01In.en (N : Nat) (ρ : Type) : List AV → Heap → (AV → Heap → Option ρ) → Option ρ
  | [.int .i64 (n0), .int .i64 (low1), .int .i64 (high2)], [], K => (spec_l01In N (fun d0 => K (.bool (d0)) []) n0 low1 high2)
  | _, _, _ => none

theorem spec_l01In.en_ok (N : Nat) (hE : EnvOk (E4 N) ents) (ρ : Type) (args : List AV) (sh : Heap) (K : AV → Heap → Option ρ) (r : ρ) (h : spec_l01In.en N ρ args sh K = some r) : ∃ v sh', K v sh' = some r ∧ FnOk (E4 N).P 130 args sh v sh' := by
  unfold spec_l01In.en at h
  split at h
  · exact fn_ok hE (kp := spec_l01In.kp) (N := N) Go.Proofs.Try.func130 (c := spec_l01In.bd) (by kernel_rfl) ((spec_l01In.eq N _ _ _ _).trans h)
  · cases h

noncomputable def E5 (N : Nat) : Env := (E4 N).add 130 (spec_l01In.en N)

theorem E5_ok (N : Nat) : EnvOk (E5 N) ents := Env.add_ok (E4_ok N) (spec_l01In.en_ok N (E4_ok N))

noncomputable def spec_l01Prime.kp : Keeps := ⟨[(0, [0, 3], 0)], [(0, [0], 0)]⟩

noncomputable def spec_l01Prime.bd : Code := bodyOf Go.Proofs.Try.f129

noncomputable def spec_l01Prime.fin {ρ : Type} (N : Nat) (K : AV → Heap → Option ρ) : XE → St → Option ρ := finK (E5 N) Go.Proofs.Try.f129 [] K

noncomputable def spec_l01Prime.k0 {ρ : Type} (N : Nat) (K : AV → Heap → Option ρ) : XE → St → Option ρ := (blockK spec_l01Prime.kp 0 0 (seqK (xcode (E5 N) ents spec_l01Prime.kp 0 N (cB (cB spec_l01Prime.bd)) 0) (spec_l01Prime.fin N K)))

theorem spec_l01Prime.k0_mix {ρ : Type} (N : Nat) (K : AV → Heap → Option ρ) : mixK (spec_l01Prime.fin N K .ret) (spec_l01Prime.k0 N K) = (spec_l01Prime.k0 N K) := by
  funext e s; cases e <;> rfl

noncomputable def spec_l01Prime.st0 (p0 : Int) (k1 : Int) : St := ⟨sl 19 [(0, .int .i64 (p0)), (3, .int .i64 (k1))], []⟩

noncomputable def spec_l01Prime.sx0_0 (p0 : Int) : St := ⟨sl 19 [(0, .int .i64 (p0))], []⟩

theorem spec_l01Prime.b0_gen {ρ : Type} (N : Nat) (K : AV → Heap → Option ρ) (L0 : St → Option ρ) (kv : XE → St → Option ρ) (p0 : Int) (k1 : Int) :
    xcode (E5 N) ents spec_l01Prime.kp 0 N (cL (cK (cB (cA (cB spec_l01Prime.bd))))) 0 (spec_l01Prime.st0 p0 k1) (roundK spec_l01Prime.kp 0 0 L0 (mixK (spec_l01Prime.fin N K .ret) kv)) = (spec_l01Prime.b0 N (fun d0 => K (.bool (d0)) []) (fun k1 => L0 (spec_l01Prime.st0 p0 k1)) (kv (.exit 0) (spec_l01Prime.sx0_0 p0)) p0 k1) := by kernel_rfl

theorem spec_l01Prime.b0_eq {ρ : Type} (N : Nat) (K : AV → Heap → Option ρ) (L0 : St → Option ρ) (p0 : Int) (k1 : Int) :
    xcode (E5 N) ents spec_l01Prime.kp 0 N (cL (cK (cB (cA (cB spec_l01Prime.bd))))) 0 (spec_l01Prime.st0 p0 k1) (roundK spec_l01Prime.kp 0 0 L0 (spec_l01Prime.k0 N K)) = (spec_l01Prime.b0 N (fun d0 => K (.bool (d0)) []) (fun k1 => L0 (spec_l01Prime.st0 p0 k1)) ((spec_l01Prime.k0 N K) (.exit 0) (spec_l01Prime.sx0_0 p0)) p0 k1) := by
  have h := spec_l01Prime.b0_gen N K L0 (spec_l01Prime.k0 N K) p0 k1
  rw [spec_l01Prime.k0_mix] at h
  exact h

theorem spec_l01Prime.a0_0_eq {ρ : Type} (N : Nat) (K : AV → Heap → Option ρ) (p0 : Int) :
    (spec_l01Prime.k0 N K) (.exit 0) (spec_l01Prime.sx0_0 p0) = (spec_l01Prime.a0_0 N (fun d0 => K (.bool (d0)) []) p0) := by kernel_rfl

theorem spec_l01Prime.l0_eq {ρ : Type} (N : Nat) (K : AV → Heap → Option ρ) (p0 : Int) :
    ∀ (m : Nat) (k1 : Int), xloop (xcode (E5 N) ents spec_l01Prime.kp 0 N (cL (cK (cB (cA (cB spec_l01Prime.bd))))) 0) spec_l01Prime.kp 0 0 m (spec_l01Prime.st0 p0 k1) (spec_l01Prime.k0 N K) = (spec_l01Prime.l0 N (fun d0 => K (.bool (d0)) []) p0 ((spec_l01Prime.k0 N K) (.exit 0) (spec_l01Prime.sx0_0 p0)) m k1) := by
  intro m
  induction m with
  | zero => intros; rfl
  | succ m ih =>
    intro k1
    refine (spec_l01Prime.b0_eq N K (fun s => xloop (xcode (E5 N) ents spec_l01Prime.kp 0 N (cL (cK (cB (cA (cB spec_l01Prime.bd))))) 0) spec_l01Prime.kp 0 0 m s (spec_l01Prime.k0 N K)) p0 k1).trans ?_
    simp only [ih]
    kernel_rfl

theorem spec_l01Prime.s_eq {ρ : Type} (N : Nat) (K : AV → Heap → Option ρ) (p0 : Int) :
    xbody (E5 N) ents spec_l01Prime.kp N Go.Proofs.Try.f129 spec_l01Prime.bd [.int .i64 (p0)] [] K = (spec_l01Prime.s N (fun d0 => K (.bool (d0)) []) (fun k1 => xloop (xcode (E5 N) ents spec_l01Prime.kp 0 N (cL (cK (cB (cA (cB spec_l01Prime.bd))))) 0) spec_l01Prime.kp 0 0 N (spec_l01Prime.st0 p0 k1) (spec_l01Prime.k0 N K))) := by kernel_rfl

theorem spec_l01Prime.eq {ρ : Type} (N : Nat) (K : AV → Heap → Option ρ) (p0 : Int) :
    xbody (E5 N) ents spec_l01Prime.kp N Go.Proofs.Try.f129 spec_l01Prime.bd [.int .i64 (p0)] [] K = (spec_l01Prime N (fun d0 => K (.bool (d0)) []) p0) := by
  refine (spec_l01Prime.s_eq N K p0).trans ?_
  simp only [spec_l01Prime.l0_eq, spec_l01Prime.a0_0_eq]
  kernel_rfl

noncomputable def spec_l01Prime.en (N : Nat) (ρ : Type) : List AV → Heap → (AV → Heap → Option ρ) → Option ρ
  | [.int .i64 (p0)], [], K => (spec_l01Prime N (fun d0 => K (.bool (d0)) []) p0)
  | _, _, _ => none

theorem spec_l01Prime.en_ok (N : Nat) (hE : EnvOk (E5 N) ents) (ρ : Type) (args : List AV) (sh : Heap) (K : AV → Heap → Option ρ) (r : ρ) (h : spec_l01Prime.en N ρ args sh K = some r) : ∃ v sh', K v sh' = some r ∧ FnOk (E5 N).P 129 args sh v sh' := by
  unfold spec_l01Prime.en at h
  split at h
  · exact fn_ok hE (kp := spec_l01Prime.kp) (N := N) Go.Proofs.Try.func129 (c := spec_l01Prime.bd) (by kernel_rfl) ((spec_l01Prime.eq N _ _).trans h)
  · cases h

noncomputable def E6 (N : Nat) : Env := (E5 N).add 129 (spec_l01Prime.en N)

theorem E6_ok (N : Nat) : EnvOk (E6 N) ents := Env.add_ok (E5_ok N) (spec_l01Prime.en_ok N (E5_ok N))

noncomputable def spec_l01Sizes.kp : Keeps := ⟨[], []⟩

noncomputable def spec_l01Sizes.bd : Code := bodyOf Go.Proofs.Try.f100

noncomputable def spec_l01Sizes.fin {ρ : Type} (N : Nat) (K : AV → Heap → Option ρ) : XE → St → Option ρ := finK (E6 N) Go.Proofs.Try.f100 [] K

theorem spec_l01Sizes.eq {ρ : Type} (N : Nat) (K : AV → Heap → Option ρ) (p0 : Int) (n1 : Int) :
    xbody (E6 N) ents spec_l01Sizes.kp N Go.Proofs.Try.f100 spec_l01Sizes.bd [.int .i64 (p0), .int .i64 (n1)] [] K = (spec_l01Sizes N (fun d0 => K (.bool (d0)) []) p0 n1) := by kernel_rfl

noncomputable def spec_l01Sizes.en (N : Nat) (ρ : Type) : List AV → Heap → (AV → Heap → Option ρ) → Option ρ
  | [.int .i64 (p0), .int .i64 (n1)], [], K => (spec_l01Sizes N (fun d0 => K (.bool (d0)) []) p0 n1)
  | _, _, _ => none

theorem spec_l01Sizes.en_ok (N : Nat) (hE : EnvOk (E6 N) ents) (ρ : Type) (args : List AV) (sh : Heap) (K : AV → Heap → Option ρ) (r : ρ) (h : spec_l01Sizes.en N ρ args sh K = some r) : ∃ v sh', K v sh' = some r ∧ FnOk (E6 N).P 100 args sh v sh' := by
  unfold spec_l01Sizes.en at h
  split at h
  · exact fn_ok hE (kp := spec_l01Sizes.kp) (N := N) Go.Proofs.Try.func100 (c := spec_l01Sizes.bd) (by kernel_rfl) ((spec_l01Sizes.eq N _ _ _).trans h)
  · cases h

noncomputable def E7 (N : Nat) : Env := (E6 N).add 100 (spec_l01Sizes.en N)

theorem E7_ok (N : Nat) : EnvOk (E7 N) ents := Env.add_ok (E6_ok N) (spec_l01Sizes.en_ok N (E6_ok N))

noncomputable def spec_l01Vector.kp : Keeps := ⟨[(0, [0, 1, 5, 7], 1)], [(0, [], 1)]⟩

noncomputable def spec_l01Vector.bd : Code := bodyOf Go.Proofs.Try.f101

noncomputable def spec_l01Vector.fin {ρ : Type} (N : Nat) (K : AV → Heap → Option ρ) : XE → St → Option ρ := finK (E7 N) Go.Proofs.Try.f101 [] K

noncomputable def spec_l01Vector.k0 {ρ : Type} (N : Nat) (K : AV → Heap → Option ρ) : XE → St → Option ρ := (blockK spec_l01Vector.kp 0 0 (seqK (xcode (E7 N) ents spec_l01Vector.kp 0 N (cB (cB spec_l01Vector.bd)) 0) (spec_l01Vector.fin N K)))

theorem spec_l01Vector.k0_mix {ρ : Type} (N : Nat) (K : AV → Heap → Option ρ) : mixK (spec_l01Vector.fin N K .ret) (spec_l01Vector.k0 N K) = (spec_l01Vector.k0 N K) := by
  funext e s; cases e <;> rfl

noncomputable def spec_l01Vector.st0 (p0 : Int) (n1 : Int) (v2 : Nat → Int) (i3 : Int) : St := ⟨sl 29 [(0, .int .i64 (p0)), (1, .int .i64 (n1)), (5, .sptr [(0, 8)]), (7, .int .i64 (i3))], [⟨true, .ints .u8 8 v2⟩]⟩

noncomputable def spec_l01Vector.sx0_0 (v2 : Nat → Int) : St := ⟨sl 29 [], [⟨true, .ints .u8 8 v2⟩]⟩

theorem spec_l01Vector.b0_gen {ρ : Type} (N : Nat) (K : AV → Heap → Option ρ) (L0 : St → Option ρ) (kv : XE → St → Option ρ) (p0 : Int) (n1 : Int) (v2 : Nat → Int) (i3 : Int) :
    xcode (E7 N) ents spec_l01Vector.kp 0 N (cL (cK (cB (cA (cB spec_l01Vector.bd))))) 0 (spec_l01Vector.st0 p0 n1 v2 i3) (roundK spec_l01Vector.kp 0 0 L0 (mixK (spec_l01Vector.fin N K .ret) kv)) = (spec_l01Vector.b0 N (fun d0 => K (.bool (d0)) []) (fun i3 => L0 (spec_l01Vector.st0 p0 n1 v2 i3)) (kv (.exit 0) (spec_l01Vector.sx0_0 v2)) p0 n1 v2 i3) := by kernel_rfl

theorem spec_l01Vector.b0_eq {ρ : Type} (N : Nat) (K : AV → Heap → Option ρ) (L0 : St → Option ρ) (p0 : Int) (n1 : Int) (v2 : Nat → Int) (i3 : Int) :
    xcode (E7 N) ents spec_l01Vector.kp 0 N (cL (cK (cB (cA (cB spec_l01Vector.bd))))) 0 (spec_l01Vector.st0 p0 n1 v2 i3) (roundK spec_l01Vector.kp 0 0 L0 (spec_l01Vector.k0 N K)) = (spec_l01Vector.b0 N (fun d0 => K (.bool (d0)) []) (fun i3 => L0 (spec_l01Vector.st0 p0 n1 v2 i3)) ((spec_l01Vector.k0 N K) (.exit 0) (spec_l01Vector.sx0_0 v2)) p0 n1 v2 i3) := by
  have h := spec_l01Vector.b0_gen N K L0 (spec_l01Vector.k0 N K) p0 n1 v2 i3
  rw [spec_l01Vector.k0_mix] at h
  exact h

theorem spec_l01Vector.a0_0_eq {ρ : Type} (N : Nat) (K : AV → Heap → Option ρ) (v2 : Nat → Int) :
    (spec_l01Vector.k0 N K) (.exit 0) (spec_l01Vector.sx0_0 v2) = (spec_l01Vector.a0_0 N (fun d0 => K (.bool (d0)) [])) := by kernel_rfl

theorem spec_l01Vector.l0_eq {ρ : Type} (N : Nat) (K : AV → Heap → Option ρ) (p0 : Int) (n1 : Int) (v2 : Nat → Int) :
    ∀ (m : Nat) (i3 : Int), xloop (xcode (E7 N) ents spec_l01Vector.kp 0 N (cL (cK (cB (cA (cB spec_l01Vector.bd))))) 0) spec_l01Vector.kp 0 0 m (spec_l01Vector.st0 p0 n1 v2 i3) (spec_l01Vector.k0 N K) = (spec_l01Vector.l0 N (fun d0 => K (.bool (d0)) []) p0 n1 v2 ((spec_l01Vector.k0 N K) (.exit 0) (spec_l01Vector.sx0_0 v2)) m i3) := by
  intro m
  induction m with
  | zero => intros; rfl
  | succ m ih =>
    intro i3
    refine (spec_l01Vector.b0_eq N K (fun s => xloop (xcode (E7 N) ents spec_l01Vector.kp 0 N (cL (cK (cB (cA (cB spec_l01Vector.bd))))) 0) spec_l01Vector.kp 0 0 m s (spec_l01Vector.k0 N K)) p0 n1 v2 i3).trans ?_
    simp only [ih]
    kernel_rfl

theorem spec_l01Vector.s_eq {ρ : Type} (N : Nat) (K : AV → Heap → Option ρ) (p0 : Int) (n1 : Int) (v2 : Nat → Int) :
    xbody (E7 N) ents spec_l01Vector.kp N Go.Proofs.Try.f101 spec_l01Vector.bd [.int .i64 (p0), .int .i64 (n1), .agg [⟨.u8, 8, v2⟩]] [] K = (spec_l01Vector.s N (fun d0 => K (.bool (d0)) []) (fun i3 => xloop (xcode (E7 N) ents spec_l01Vector.kp 0 N (cL (cK (cB (cA (cB spec_l01Vector.bd))))) 0) spec_l01Vector.kp 0 0 N (spec_l01Vector.st0 p0 n1 v2 i3) (spec_l01Vector.k0 N K))) := by kernel_rfl

theorem spec_l01Vector.eq {ρ : Type} (N : Nat) (K : AV → Heap → Option ρ) (p0 : Int) (n1 : Int) (v2 : Nat → Int) :
    xbody (E7 N) ents spec_l01Vector.kp N Go.Proofs.Try.f101 spec_l01Vector.bd [.int .i64 (p0), .int .i64 (n1), .agg [⟨.u8, 8, v2⟩]] [] K = (spec_l01Vector N (fun d0 => K (.bool (d0)) []) p0 n1 v2) := by
  refine (spec_l01Vector.s_eq N K p0 n1 v2).trans ?_
  simp only [spec_l01Vector.l0_eq, spec_l01Vector.a0_0_eq]
  kernel_rfl

noncomputable def spec_l01Vector.en (N : Nat) (ρ : Type) : List AV → Heap → (AV → Heap → Option ρ) → Option ρ
  | [.int .i64 (p0), .int .i64 (n1), .agg [⟨.u8, 8, v2⟩]], [], K => (spec_l01Vector N (fun d0 => K (.bool (d0)) []) p0 n1 v2)
  | _, _, _ => none

theorem spec_l01Vector.en_ok (N : Nat) (hE : EnvOk (E7 N) ents) (ρ : Type) (args : List AV) (sh : Heap) (K : AV → Heap → Option ρ) (r : ρ) (h : spec_l01Vector.en N ρ args sh K = some r) : ∃ v sh', K v sh' = some r ∧ FnOk (E7 N).P 101 args sh v sh' := by
  unfold spec_l01Vector.en at h
  split at h
  · exact fn_ok hE (kp := spec_l01Vector.kp) (N := N) Go.Proofs.Try.func101 (c := spec_l01Vector.bd) (by kernel_rfl) ((spec_l01Vector.eq N _ _ _ _).trans h)
  · cases h

noncomputable def E8 (N : Nat) : Env := (E7 N).add 101 (spec_l01Vector.en N)

theorem E8_ok (N : Nat) : EnvOk (E8 N) ents := Env.add_ok (E7_ok N) (spec_l01Vector.en_ok N (E7_ok N))

noncomputable def spec_l01Linear.kp : Keeps := ⟨[(0, [0, 1, 5, 7], 1)], [(0, [], 1)]⟩

noncomputable def spec_l01Linear.bd : Code := bodyOf Go.Proofs.Try.f131

noncomputable def spec_l01Linear.fin {ρ : Type} (N : Nat) (K : AV → Heap → Option ρ) : XE → St → Option ρ := finK (E8 N) Go.Proofs.Try.f131 [] K

noncomputable def spec_l01Linear.k0 {ρ : Type} (N : Nat) (K : AV → Heap → Option ρ) : XE → St → Option ρ := (blockK spec_l01Linear.kp 0 0 (seqK (xcode (E8 N) ents spec_l01Linear.kp 0 N (cB (cB spec_l01Linear.bd)) 0) (spec_l01Linear.fin N K)))

theorem spec_l01Linear.k0_mix {ρ : Type} (N : Nat) (K : AV → Heap → Option ρ) : mixK (spec_l01Linear.fin N K .ret) (spec_l01Linear.k0 N K) = (spec_l01Linear.k0 N K) := by
  funext e s; cases e <;> rfl

noncomputable def spec_l01Linear.st0 (p0 : Int) (n1 : Int) (f2 : Nat → Int) (i3 : Int) : St := ⟨sl 31 [(0, .int .i64 (p0)), (1, .int .i64 (n1)), (5, .sptr [(0, 64)]), (7, .int .i64 (i3))], [⟨true, .ints .u8 64 f2⟩]⟩

noncomputable def spec_l01Linear.sx0_0 (f2 : Nat → Int) : St := ⟨sl 31 [], [⟨true, .ints .u8 64 f2⟩]⟩

theorem spec_l01Linear.b0_gen {ρ : Type} (N : Nat) (K : AV → Heap → Option ρ) (L0 : St → Option ρ) (kv : XE → St → Option ρ) (p0 : Int) (n1 : Int) (f2 : Nat → Int) (i3 : Int) :
    xcode (E8 N) ents spec_l01Linear.kp 0 N (cL (cK (cB (cA (cB spec_l01Linear.bd))))) 0 (spec_l01Linear.st0 p0 n1 f2 i3) (roundK spec_l01Linear.kp 0 0 L0 (mixK (spec_l01Linear.fin N K .ret) kv)) = (spec_l01Linear.b0 N (fun d0 => K (.bool (d0)) []) (fun i3 => L0 (spec_l01Linear.st0 p0 n1 f2 i3)) (kv (.exit 0) (spec_l01Linear.sx0_0 f2)) p0 n1 f2 i3) := by kernel_rfl

theorem spec_l01Linear.b0_eq {ρ : Type} (N : Nat) (K : AV → Heap → Option ρ) (L0 : St → Option ρ) (p0 : Int) (n1 : Int) (f2 : Nat → Int) (i3 : Int) :
    xcode (E8 N) ents spec_l01Linear.kp 0 N (cL (cK (cB (cA (cB spec_l01Linear.bd))))) 0 (spec_l01Linear.st0 p0 n1 f2 i3) (roundK spec_l01Linear.kp 0 0 L0 (spec_l01Linear.k0 N K)) = (spec_l01Linear.b0 N (fun d0 => K (.bool (d0)) []) (fun i3 => L0 (spec_l01Linear.st0 p0 n1 f2 i3)) ((spec_l01Linear.k0 N K) (.exit 0) (spec_l01Linear.sx0_0 f2)) p0 n1 f2 i3) := by
  have h := spec_l01Linear.b0_gen N K L0 (spec_l01Linear.k0 N K) p0 n1 f2 i3
  rw [spec_l01Linear.k0_mix] at h
  exact h

theorem spec_l01Linear.a0_0_eq {ρ : Type} (N : Nat) (K : AV → Heap → Option ρ) (f2 : Nat → Int) :
    (spec_l01Linear.k0 N K) (.exit 0) (spec_l01Linear.sx0_0 f2) = (spec_l01Linear.a0_0 N (fun d0 => K (.bool (d0)) [])) := by kernel_rfl

theorem spec_l01Linear.l0_eq {ρ : Type} (N : Nat) (K : AV → Heap → Option ρ) (p0 : Int) (n1 : Int) (f2 : Nat → Int) :
    ∀ (m : Nat) (i3 : Int), xloop (xcode (E8 N) ents spec_l01Linear.kp 0 N (cL (cK (cB (cA (cB spec_l01Linear.bd))))) 0) spec_l01Linear.kp 0 0 m (spec_l01Linear.st0 p0 n1 f2 i3) (spec_l01Linear.k0 N K) = (spec_l01Linear.l0 N (fun d0 => K (.bool (d0)) []) p0 n1 f2 ((spec_l01Linear.k0 N K) (.exit 0) (spec_l01Linear.sx0_0 f2)) m i3) := by
  intro m
  induction m with
  | zero => intros; rfl
  | succ m ih =>
    intro i3
    refine (spec_l01Linear.b0_eq N K (fun s => xloop (xcode (E8 N) ents spec_l01Linear.kp 0 N (cL (cK (cB (cA (cB spec_l01Linear.bd))))) 0) spec_l01Linear.kp 0 0 m s (spec_l01Linear.k0 N K)) p0 n1 f2 i3).trans ?_
    simp only [ih]
    kernel_rfl

theorem spec_l01Linear.s_eq {ρ : Type} (N : Nat) (K : AV → Heap → Option ρ) (p0 : Int) (n1 : Int) (f2 : Nat → Int) :
    xbody (E8 N) ents spec_l01Linear.kp N Go.Proofs.Try.f131 spec_l01Linear.bd [.int .i64 (p0), .int .i64 (n1), .agg [⟨.u8, 64, f2⟩]] [] K = (spec_l01Linear.s N (fun d0 => K (.bool (d0)) []) (fun i3 => xloop (xcode (E8 N) ents spec_l01Linear.kp 0 N (cL (cK (cB (cA (cB spec_l01Linear.bd))))) 0) spec_l01Linear.kp 0 0 N (spec_l01Linear.st0 p0 n1 f2 i3) (spec_l01Linear.k0 N K))) := by kernel_rfl

theorem spec_l01Linear.eq {ρ : Type} (N : Nat) (K : AV → Heap → Option ρ) (p0 : Int) (n1 : Int) (f2 : Nat → Int) :
    xbody (E8 N) ents spec_l01Linear.kp N Go.Proofs.Try.f131 spec_l01Linear.bd [.int .i64 (p0), .int .i64 (n1), .agg [⟨.u8, 64, f2⟩]] [] K = (spec_l01Linear N (fun d0 => K (.bool (d0)) []) p0 n1 f2) := by
  refine (spec_l01Linear.s_eq N K p0 n1 f2).trans ?_
  simp only [spec_l01Linear.l0_eq, spec_l01Linear.a0_0_eq]
  kernel_rfl

noncomputable def spec_l01Linear.en (N : Nat) (ρ : Type) : List AV → Heap → (AV → Heap → Option ρ) → Option ρ
  | [.int .i64 (p0), .int .i64 (n1), .agg [⟨.u8, 64, f2⟩]], [], K => (spec_l01Linear N (fun d0 => K (.bool (d0)) []) p0 n1 f2)
  | _, _, _ => none

theorem spec_l01Linear.en_ok (N : Nat) (hE : EnvOk (E8 N) ents) (ρ : Type) (args : List AV) (sh : Heap) (K : AV → Heap → Option ρ) (r : ρ) (h : spec_l01Linear.en N ρ args sh K = some r) : ∃ v sh', K v sh' = some r ∧ FnOk (E8 N).P 131 args sh v sh' := by
  unfold spec_l01Linear.en at h
  split at h
  · exact fn_ok hE (kp := spec_l01Linear.kp) (N := N) Go.Proofs.Try.func131 (c := spec_l01Linear.bd) (by kernel_rfl) ((spec_l01Linear.eq N _ _ _ _).trans h)
  · cases h

noncomputable def E9 (N : Nat) : Env := (E8 N).add 131 (spec_l01Linear.en N)

theorem E9_ok (N : Nat) : EnvOk (E9 N) ents := Env.add_ok (E8_ok N) (spec_l01Linear.en_ok N (E8_ok N))

noncomputable def spec_l01Table.kp : Keeps := ⟨[(0, [0, 1, 5, 7], 1)], [(0, [], 1)]⟩

noncomputable def spec_l01Table.bd : Code := bodyOf Go.Proofs.Try.f102

noncomputable def spec_l01Table.fin {ρ : Type} (N : Nat) (K : AV → Heap → Option ρ) : XE → St → Option ρ := finK (E9 N) Go.Proofs.Try.f102 [] K

noncomputable def spec_l01Table.k0 {ρ : Type} (N : Nat) (K : AV → Heap → Option ρ) : XE → St → Option ρ := (blockK spec_l01Table.kp 0 0 (seqK (xcode (E9 N) ents spec_l01Table.kp 0 N (cB (cB spec_l01Table.bd)) 0) (spec_l01Table.fin N K)))

theorem spec_l01Table.k0_mix {ρ : Type} (N : Nat) (K : AV → Heap → Option ρ) : mixK (spec_l01Table.fin N K .ret) (spec_l01Table.k0 N K) = (spec_l01Table.k0 N K) := by
  funext e s; cases e <;> rfl

noncomputable def spec_l01Table.st0 (p0 : Int) (n1 : Int) (t2 : Nat → Int) (i3 : Int) : St := ⟨sl 31 [(0, .int .i64 (p0)), (1, .int .i64 (n1)), (5, .sptr [(0, 512)]), (7, .int .i64 (i3))], [⟨true, .ints .u8 512 t2⟩]⟩

noncomputable def spec_l01Table.sx0_0 (t2 : Nat → Int) : St := ⟨sl 31 [], [⟨true, .ints .u8 512 t2⟩]⟩

theorem spec_l01Table.b0_gen {ρ : Type} (N : Nat) (K : AV → Heap → Option ρ) (L0 : St → Option ρ) (kv : XE → St → Option ρ) (p0 : Int) (n1 : Int) (t2 : Nat → Int) (i3 : Int) :
    xcode (E9 N) ents spec_l01Table.kp 0 N (cL (cK (cB (cA (cB spec_l01Table.bd))))) 0 (spec_l01Table.st0 p0 n1 t2 i3) (roundK spec_l01Table.kp 0 0 L0 (mixK (spec_l01Table.fin N K .ret) kv)) = (spec_l01Table.b0 N (fun d0 => K (.bool (d0)) []) (fun i3 => L0 (spec_l01Table.st0 p0 n1 t2 i3)) (kv (.exit 0) (spec_l01Table.sx0_0 t2)) p0 n1 t2 i3) := by kernel_rfl

theorem spec_l01Table.b0_eq {ρ : Type} (N : Nat) (K : AV → Heap → Option ρ) (L0 : St → Option ρ) (p0 : Int) (n1 : Int) (t2 : Nat → Int) (i3 : Int) :
    xcode (E9 N) ents spec_l01Table.kp 0 N (cL (cK (cB (cA (cB spec_l01Table.bd))))) 0 (spec_l01Table.st0 p0 n1 t2 i3) (roundK spec_l01Table.kp 0 0 L0 (spec_l01Table.k0 N K)) = (spec_l01Table.b0 N (fun d0 => K (.bool (d0)) []) (fun i3 => L0 (spec_l01Table.st0 p0 n1 t2 i3)) ((spec_l01Table.k0 N K) (.exit 0) (spec_l01Table.sx0_0 t2)) p0 n1 t2 i3) := by
  have h := spec_l01Table.b0_gen N K L0 (spec_l01Table.k0 N K) p0 n1 t2 i3
  rw [spec_l01Table.k0_mix] at h
  exact h

theorem spec_l01Table.a0_0_eq {ρ : Type} (N : Nat) (K : AV → Heap → Option ρ) (t2 : Nat → Int) :
    (spec_l01Table.k0 N K) (.exit 0) (spec_l01Table.sx0_0 t2) = (spec_l01Table.a0_0 N (fun d0 => K (.bool (d0)) [])) := by kernel_rfl

theorem spec_l01Table.l0_eq {ρ : Type} (N : Nat) (K : AV → Heap → Option ρ) (p0 : Int) (n1 : Int) (t2 : Nat → Int) :
    ∀ (m : Nat) (i3 : Int), xloop (xcode (E9 N) ents spec_l01Table.kp 0 N (cL (cK (cB (cA (cB spec_l01Table.bd))))) 0) spec_l01Table.kp 0 0 m (spec_l01Table.st0 p0 n1 t2 i3) (spec_l01Table.k0 N K) = (spec_l01Table.l0 N (fun d0 => K (.bool (d0)) []) p0 n1 t2 ((spec_l01Table.k0 N K) (.exit 0) (spec_l01Table.sx0_0 t2)) m i3) := by
  intro m
  induction m with
  | zero => intros; rfl
  | succ m ih =>
    intro i3
    refine (spec_l01Table.b0_eq N K (fun s => xloop (xcode (E9 N) ents spec_l01Table.kp 0 N (cL (cK (cB (cA (cB spec_l01Table.bd))))) 0) spec_l01Table.kp 0 0 m s (spec_l01Table.k0 N K)) p0 n1 t2 i3).trans ?_
    simp only [ih]
    kernel_rfl

theorem spec_l01Table.s_eq {ρ : Type} (N : Nat) (K : AV → Heap → Option ρ) (p0 : Int) (n1 : Int) (t2 : Nat → Int) :
    xbody (E9 N) ents spec_l01Table.kp N Go.Proofs.Try.f102 spec_l01Table.bd [.int .i64 (p0), .int .i64 (n1), .agg [⟨.u8, 512, t2⟩]] [] K = (spec_l01Table.s N (fun d0 => K (.bool (d0)) []) (fun i3 => xloop (xcode (E9 N) ents spec_l01Table.kp 0 N (cL (cK (cB (cA (cB spec_l01Table.bd))))) 0) spec_l01Table.kp 0 0 N (spec_l01Table.st0 p0 n1 t2 i3) (spec_l01Table.k0 N K))) := by kernel_rfl

theorem spec_l01Table.eq {ρ : Type} (N : Nat) (K : AV → Heap → Option ρ) (p0 : Int) (n1 : Int) (t2 : Nat → Int) :
    xbody (E9 N) ents spec_l01Table.kp N Go.Proofs.Try.f102 spec_l01Table.bd [.int .i64 (p0), .int .i64 (n1), .agg [⟨.u8, 512, t2⟩]] [] K = (spec_l01Table N (fun d0 => K (.bool (d0)) []) p0 n1 t2) := by
  refine (spec_l01Table.s_eq N K p0 n1 t2).trans ?_
  simp only [spec_l01Table.l0_eq, spec_l01Table.a0_0_eq]
  kernel_rfl

noncomputable def spec_l01Table.en (N : Nat) (ρ : Type) : List AV → Heap → (AV → Heap → Option ρ) → Option ρ
  | [.int .i64 (p0), .int .i64 (n1), .agg [⟨.u8, 512, t2⟩]], [], K => (spec_l01Table N (fun d0 => K (.bool (d0)) []) p0 n1 t2)
  | _, _, _ => none

theorem spec_l01Table.en_ok (N : Nat) (hE : EnvOk (E9 N) ents) (ρ : Type) (args : List AV) (sh : Heap) (K : AV → Heap → Option ρ) (r : ρ) (h : spec_l01Table.en N ρ args sh K = some r) : ∃ v sh', K v sh' = some r ∧ FnOk (E9 N).P 102 args sh v sh' := by
  unfold spec_l01Table.en at h
  split at h
  · exact fn_ok hE (kp := spec_l01Table.kp) (N := N) Go.Proofs.Try.func102 (c := spec_l01Table.bd) (by kernel_rfl) ((spec_l01Table.eq N _ _ _ _).trans h)
  · cases h

noncomputable def E10 (N : Nat) : Env := (E9 N).add 102 (spec_l01Table.en N)

theorem E10_ok (N : Nat) : EnvOk (E10 N) ents := Env.add_ok (E9_ok N) (spec_l01Table.en_ok N (E9_ok N))

noncomputable def spec_l02Shape.kp : Keeps := ⟨[], []⟩

noncomputable def spec_l02Shape.bd : Code := bodyOf Go.Proofs.Try.f58

noncomputable def spec_l02Shape.fin {ρ : Type} (N : Nat) (K : AV → Heap → Option ρ) : XE → St → Option ρ := finK (E10 N) Go.Proofs.Try.f58 [] K

theorem spec_l02Shape.eq {ρ : Type} (N : Nat) (K : AV → Heap → Option ρ) (c0 : Nat → Int) (c1 : Nat → Int) :
    xbody (E10 N) ents spec_l02Shape.kp N Go.Proofs.Try.f58 spec_l02Shape.bd [.agg [⟨.i64, 2, c0⟩, ⟨.u8, 520, c1⟩]] [] K = (spec_l02Shape N (fun d0 => K (.bool (d0)) []) c0 c1) := by kernel_rfl

noncomputable def spec_l02Shape.en (N : Nat) (ρ : Type) : List AV → Heap → (AV → Heap → Option ρ) → Option ρ
  | [.agg [⟨.i64, 2, c0⟩, ⟨.u8, 520, c1⟩]], [], K => (spec_l02Shape N (fun d0 => K (.bool (d0)) []) c0 c1)
  | _, _, _ => none

theorem spec_l02Shape.en_ok (N : Nat) (hE : EnvOk (E10 N) ents) (ρ : Type) (args : List AV) (sh : Heap) (K : AV → Heap → Option ρ) (r : ρ) (h : spec_l02Shape.en N ρ args sh K = some r) : ∃ v sh', K v sh' = some r ∧ FnOk (E10 N).P 58 args sh v sh' := by
  unfold spec_l02Shape.en at h
  split at h
  · exact fn_ok hE (kp := spec_l02Shape.kp) (N := N) Go.Proofs.Try.func58 (c := spec_l02Shape.bd) (by kernel_rfl) ((spec_l02Shape.eq N _ _ _).trans h)
  · cases h

noncomputable def E11 (N : Nat) : Env := (E10 N).add 58 (spec_l02Shape.en N)

theorem E11_ok (N : Nat) : EnvOk (E11 N) ents := Env.add_ok (E10_ok N) (spec_l02Shape.en_ok N (E10_ok N))

noncomputable def spec_l01Mod.kp : Keeps := ⟨[], []⟩

noncomputable def spec_l01Mod.bd : Code := bodyOf Go.Proofs.Try.f109

noncomputable def spec_l01Mod.fin {ρ : Type} (N : Nat) (K : AV → Heap → Option ρ) : XE → St → Option ρ := finK (E11 N) Go.Proofs.Try.f109 [] K

theorem spec_l01Mod.eq {ρ : Type} (N : Nat) (K : AV → Heap → Option ρ) (p0 : Int) (x1 : Int) :
    xbody (E11 N) ents spec_l01Mod.kp N Go.Proofs.Try.f109 spec_l01Mod.bd [.int .i64 (p0), .int .i64 (x1)] [] K = (spec_l01Mod N (fun d0 => K (.int .u8 (d0)) []) p0 x1) := by kernel_rfl

noncomputable def spec_l01Mod.en (N : Nat) (ρ : Type) : List AV → Heap → (AV → Heap → Option ρ) → Option ρ
  | [.int .i64 (p0), .int .i64 (x1)], [], K => (spec_l01Mod N (fun d0 => K (.int .u8 (d0)) []) p0 x1)
  | _, _, _ => none

theorem spec_l01Mod.en_ok (N : Nat) (hE : EnvOk (E11 N) ents) (ρ : Type) (args : List AV) (sh : Heap) (K : AV → Heap → Option ρ) (r : ρ) (h : spec_l01Mod.en N ρ args sh K = some r) : ∃ v sh', K v sh' = some r ∧ FnOk (E11 N).P 109 args sh v sh' := by
  unfold spec_l01Mod.en at h
  split at h
  · exact fn_ok hE (kp := spec_l01Mod.kp) (N := N) Go.Proofs.Try.func109 (c := spec_l01Mod.bd) (by kernel_rfl) ((spec_l01Mod.eq N _ _ _).trans h)
  · cases h

noncomputable def E12 (N : Nat) : Env := (E11 N).add 109 (spec_l01Mod.en N)

theorem E12_ok (N : Nat) : EnvOk (E12 N) ents := Env.add_ok (E11_ok N) (spec_l01Mod.en_ok N (E11_ok N))

noncomputable def spec_l02Sums.kp : Keeps := ⟨[(0, [1, 2, 3, 4, 5, 12, 13, 14], 2)], [(0, [5, 12, 13], 2)]⟩

noncomputable def spec_l02Sums.bd : Code := bodyOf Go.Proofs.Try.f103

noncomputable def spec_l02Sums.fin {ρ : Type} (N : Nat) (K : AV → Heap → Option ρ) : XE → St → Option ρ := finK (E12 N) Go.Proofs.Try.f103 [] K

noncomputable def spec_l02Sums.k0 {ρ : Type} (N : Nat) (K : AV → Heap → Option ρ) : XE → St → Option ρ := (blockK spec_l02Sums.kp 0 0 (seqK (xcode (E12 N) ents spec_l02Sums.kp 0 N (cB (cB (cB spec_l02Sums.bd))) 0) (spec_l02Sums.fin N K)))

theorem spec_l02Sums.k0_mix {ρ : Type} (N : Nat) (K : AV → Heap → Option ρ) : mixK (spec_l02Sums.fin N K .ret) (spec_l02Sums.k0 N K) = (spec_l02Sums.k0 N K) := by
  funext e s; cases e <;> rfl

noncomputable def spec_l02Sums.st0 (c0 : Nat → Int) (c1 : Nat → Int) (i2 : Int) (j3 : Int) (k4 : Int) (l5 : Int) (left6 : Int) (right7 : Int) (a8 : Int) : St := ⟨sl 71 [(1, .int .i64 (i2)), (2, .int .i64 (j3)), (3, .int .i64 (k4)), (4, .int .i64 (l5)), (5, .sptr [(0, 2), (1, 520)]), (12, .int .i64 (left6)), (13, .int .i64 (right7)), (14, .int .i64 (a8))], [⟨true, .ints .i64 2 c0⟩, ⟨true, .ints .u8 520 c1⟩]⟩

noncomputable def spec_l02Sums.sx0_0 (c0 : Nat → Int) (c1 : Nat → Int) (o9 : Int) (o10 : Int) : St := ⟨sl 71 [(5, .sptr [(0, 2), (1, 520)]), (12, .int .i64 (o9)), (13, .int .i64 (o10))], [⟨true, .ints .i64 2 c0⟩, ⟨true, .ints .u8 520 c1⟩]⟩

theorem spec_l02Sums.b0_gen {ρ : Type} (N : Nat) (K : AV → Heap → Option ρ) (L0 : St → Option ρ) (kv : XE → St → Option ρ) (c0 : Nat → Int) (c1 : Nat → Int) (i2 : Int) (j3 : Int) (k4 : Int) (l5 : Int) (left6 : Int) (right7 : Int) (a8 : Int) :
    xcode (E12 N) ents spec_l02Sums.kp 0 N (cL (cK (cB (cA (cB (cB spec_l02Sums.bd)))))) 0 (spec_l02Sums.st0 c0 c1 i2 j3 k4 l5 left6 right7 a8) (roundK spec_l02Sums.kp 0 0 L0 (mixK (spec_l02Sums.fin N K .ret) kv)) = (spec_l02Sums.b0 N (fun d0 d1 => K (.tup [.int .u8 (d0), .int .u8 (d1)]) []) (fun left6 right7 a8 => L0 (spec_l02Sums.st0 c0 c1 i2 j3 k4 l5 left6 right7 a8)) (fun o9 o10 => kv (.exit 0) (spec_l02Sums.sx0_0 c0 c1 o9 o10)) c0 c1 i2 j3 k4 l5 left6 right7 a8) := by kernel_rfl

theorem spec_l02Sums.b0_eq {ρ : Type} (N : Nat) (K : AV → Heap → Option ρ) (L0 : St → Option ρ) (c0 : Nat → Int) (c1 : Nat → Int) (i2 : Int) (j3 : Int) (k4 : Int) (l5 : Int) (left6 : Int) (right7 : Int) (a8 : Int) :
    xcode (E12 N) ents spec_l02Sums.kp 0 N (cL (cK (cB (cA (cB (cB spec_l02Sums.bd)))))) 0 (spec_l02Sums.st0 c0 c1 i2 j3 k4 l5 left6 right7 a8) (roundK spec_l02Sums.kp 0 0 L0 (spec_l02Sums.k0 N K)) = (spec_l02Sums.b0 N (fun d0 d1 => K (.tup [.int .u8 (d0), .int .u8 (d1)]) []) (fun left6 right7 a8 => L0 (spec_l02Sums.st0 c0 c1 i2 j3 k4 l5 left6 right7 a8)) (fun o9 o10 => (spec_l02Sums.k0 N K) (.exit 0) (spec_l02Sums.sx0_0 c0 c1 o9 o10)) c0 c1 i2 j3 k4 l5 left6 right7 a8) := by
  have h := spec_l02Sums.b0_gen N K L0 (spec_l02Sums.k0 N K) c0 c1 i2 j3 k4 l5 left6 right7 a8
  rw [spec_l02Sums.k0_mix] at h
  exact h

theorem spec_l02Sums.a0_0_eq {ρ : Type} (N : Nat) (K : AV → Heap → Option ρ) (c0 : Nat → Int) (c1 : Nat → Int) (o9 : Int) (o10 : Int) :
    (spec_l02Sums.k0 N K) (.exit 0) (spec_l02Sums.sx0_0 c0 c1 o9 o10) = (spec_l02Sums.a0_0 N (fun d0 d1 => K (.tup [.int .u8 (d0), .int .u8 (d1)]) []) c0 o9 o10) := by kernel_rfl

theorem spec_l02Sums.l0_eq {ρ : Type} (N : Nat) (K : AV → Heap → Option ρ) (c0 : Nat → Int) (c1 : Nat → Int) (i2 : Int) (j3 : Int) (k4 : Int) (l5 : Int) :
    ∀ (m : Nat) (left6 : Int) (right7 : Int) (a8 : Int), xloop (xcode (E12 N) ents spec_l02Sums.kp 0 N (cL (cK (cB (cA (cB (cB spec_l02Sums.bd)))))) 0) spec_l02Sums.kp 0 0 m (spec_l02Sums.st0 c0 c1 i2 j3 k4 l5 left6 right7 a8) (spec_l02Sums.k0 N K) = (spec_l02Sums.l0 N (fun d0 d1 => K (.tup [.int .u8 (d0), .int .u8 (d1)]) []) c0 c1 i2 j3 k4 l5 (fun o9 o10 => (spec_l02Sums.k0 N K) (.exit 0) (spec_l02Sums.sx0_0 c0 c1 o9 o10)) m left6 right7 a8) := by
  intro m
  induction m with
  | zero => intros; rfl
  | succ m ih =>
    intro left6 right7 a8
    refine (spec_l02Sums.b0_eq N K (fun s => xloop (xcode (E12 N) ents spec_l02Sums.kp 0 N (cL (cK (cB (cA (cB (cB spec_l02Sums.bd)))))) 0) spec_l02Sums.kp 0 0 m s (spec_l02Sums.k0 N K)) c0 c1 i2 j3 k4 l5 left6 right7 a8).trans ?_
    simp only [ih]
    kernel_rfl

theorem spec_l02Sums.s_eq {ρ : Type} (N : Nat) (K : AV → Heap → Option ρ) (c0 : Nat → Int) (c1 : Nat → Int) (i2 : Int) (j3 : Int) (k4 : Int) (l5 : Int) :
    xbody (E12 N) ents spec_l02Sums.kp N Go.Proofs.Try.f103 spec_l02Sums.bd [.agg [⟨.i64, 2, c0⟩, ⟨.u8, 520, c1⟩], .int .i64 (i2), .int .i64 (j3), .int .i64 (k4), .int .i64 (l5)] [] K = (spec_l02Sums.s N (fun d0 d1 => K (.tup [.int .u8 (d0), .int .u8 (d1)]) []) (fun left6 right7 a8 => xloop (xcode (E12 N) ents spec_l02Sums.kp 0 N (cL (cK (cB (cA (cB (cB spec_l02Sums.bd)))))) 0) spec_l02Sums.kp 0 0 N (spec_l02Sums.st0 c0 c1 i2 j3 k4 l5 left6 right7 a8) (spec_l02Sums.k0 N K))) := by kernel_rfl

theorem spec_l02Sums.eq {ρ : Type} (N : Nat) (K : AV → Heap → Option ρ) (c0 : Nat → Int) (c1 : Nat → Int) (i2 : Int) (j3 : Int) (k4 : Int) (l5 : Int) :
    xbody (E12 N) ents spec_l02Sums.kp N Go.Proofs.Try.f103 spec_l02Sums.bd [.agg [⟨.i64, 2, c0⟩, ⟨.u8, 520, c1⟩], .int .i64 (i2), .int .i64 (j3), .int .i64 (k4), .int .i64 (l5)] [] K = (spec_l02Sums N (fun d0 d1 => K (.tup [.int .u8 (d0), .int .u8 (d1)]) []) c0 c1 i2 j3 k4 l5) := by
  refine (spec_l02Sums.s_eq N K c0 c1 i2 j3 k4 l5).trans ?_
  simp only [spec_l02Sums.l0_eq, spec_l02Sums.a0_0_eq]
  kernel_rfl

noncomputable def spec_l02Sums.en (N : Nat) (ρ : Type) : List AV → Heap → (AV → Heap → Option ρ) → Option ρ
  | [.agg [⟨.i64, 2, c0⟩, ⟨.u8, 520, c1⟩], .int .i64 (i2), .int .i64 (j3), .int .i64 (k4), .int .i64 (l5)], [], K => (spec_l02Sums N (fun d0 d1 => K (.tup [.int .u8 (d0), .int .u8 (d1)]) []) c0 c1 i2 j3 k4 l5)
  | _, _, _ => none

theorem spec_l02Sums.en_ok (N : Nat) (hE : EnvOk (E12 N) ents) (ρ : Type) (args : List AV) (sh : Heap) (K : AV → Heap → Option ρ) (r : ρ) (h : spec_l02Sums.en N ρ args sh K = some r) : ∃ v sh', K v sh' = some r ∧ FnOk (E12 N).P 103 args sh v sh' := by
  unfold spec_l02Sums.en at h
  split at h
  · exact fn_ok hE (kp := spec_l02Sums.kp) (N := N) Go.Proofs.Try.func103 (c := spec_l02Sums.bd) (by kernel_rfl) ((spec_l02Sums.eq N _ _ _ _ _ _ _).trans h)
  · cases h

noncomputable def E13 (N : Nat) : Env := (E12 N).add 103 (spec_l02Sums.en N)

theorem E13_ok (N : Nat) : EnvOk (E13 N) ents := Env.add_ok (E12_ok N) (spec_l02Sums.en_ok N (E12_ok N))

noncomputable def spec_l02Fault.kp : Keeps := ⟨[(0, [1, 4, 5], 2)], [(0, [], 2)]⟩

noncomputable def spec_l02Fault.bd : Code := bodyOf Go.Proofs.Try.f59

noncomputable def spec_l02Fault.fin {ρ : Type} (N : Nat) (K : AV → Heap → Option ρ) : XE → St → Option ρ := finK (E13 N) Go.Proofs.Try.f59 [] K

noncomputable def spec_l02Fault.k0 {ρ : Type} (N : Nat) (K : AV → Heap → Option ρ) : XE → St → Option ρ := (blockK spec_l02Fault.kp 0 0 (seqK (xcode (E13 N) ents spec_l02Fault.kp 0 N (cB (cB (cB spec_l02Fault.bd))) 0) (spec_l02Fault.fin N K)))

theorem spec_l02Fault.k0_mix {ρ : Type} (N : Nat) (K : AV → Heap → Option ρ) : mixK (spec_l02Fault.fin N K .ret) (spec_l02Fault.k0 N K) = (spec_l02Fault.k0 N K) := by
  funext e s; cases e <;> rfl

noncomputable def spec_l02Fault.st0 (c0 : Nat → Int) (c1 : Nat → Int) (m2 : Int) : St := ⟨sl 64 [(1, .sptr [(0, 2), (1, 520)]), (4, .int .i64 ((c0 1))), (5, .int .i64 (m2))], [⟨true, .ints .i64 2 c0⟩, ⟨true, .ints .u8 520 c1⟩]⟩

noncomputable def spec_l02Fault.sx0_0 (c0 : Nat → Int) (c1 : Nat → Int) : St := ⟨sl 64 [], [⟨true, .ints .i64 2 c0⟩, ⟨true, .ints .u8 520 c1⟩]⟩

theorem spec_l02Fault.b0_gen {ρ : Type} (N : Nat) (K : AV → Heap → Option ρ) (L0 : St → Option ρ) (kv : XE → St → Option ρ) (c0 : Nat → Int) (c1 : Nat → Int) (m2 : Int) :
    xcode (E13 N) ents spec_l02Fault.kp 0 N (cL (cK (cB (cA (cB (cB spec_l02Fault.bd)))))) 0 (spec_l02Fault.st0 c0 c1 m2) (roundK spec_l02Fault.kp 0 0 L0 (mixK (spec_l02Fault.fin N K .ret) kv)) = (spec_l02Fault.b0 N (fun d0 d1 d2 d3 => K (.tup [.slice 0 0 d0 (some d1) 1, .bool (d2)]) [⟨true, .ints .i64 4 d3⟩]) (fun d0 => K (.tup [.nils, .bool (d0)]) []) (fun m2 => L0 (spec_l02Fault.st0 c0 c1 m2)) (kv (.exit 0) (spec_l02Fault.sx0_0 c0 c1)) c0 c1 m2) := by kernel_rfl

theorem spec_l02Fault.b0_eq {ρ : Type} (N : Nat) (K : AV → Heap → Option ρ) (L0 : St → Option ρ) (c0 : Nat → Int) (c1 : Nat → Int) (m2 : Int) :
    xcode (E13 N) ents spec_l02Fault.kp 0 N (cL (cK (cB (cA (cB (cB spec_l02Fault.bd)))))) 0 (spec_l02Fault.st0 c0 c1 m2) (roundK spec_l02Fault.kp 0 0 L0 (spec_l02Fault.k0 N K)) = (spec_l02Fault.b0 N (fun d0 d1 d2 d3 => K (.tup [.slice 0 0 d0 (some d1) 1, .bool (d2)]) [⟨true, .ints .i64 4 d3⟩]) (fun d0 => K (.tup [.nils, .bool (d0)]) []) (fun m2 => L0 (spec_l02Fault.st0 c0 c1 m2)) ((spec_l02Fault.k0 N K) (.exit 0) (spec_l02Fault.sx0_0 c0 c1)) c0 c1 m2) := by
  have h := spec_l02Fault.b0_gen N K L0 (spec_l02Fault.k0 N K) c0 c1 m2
  rw [spec_l02Fault.k0_mix] at h
  exact h

theorem spec_l02Fault.a0_0_eq {ρ : Type} (N : Nat) (K : AV → Heap → Option ρ) (c0 : Nat → Int) (c1 : Nat → Int) :
    (spec_l02Fault.k0 N K) (.exit 0) (spec_l02Fault.sx0_0 c0 c1) = (spec_l02Fault.a0_0 N (fun d0 d1 d2 d3 => K (.tup [.slice 0 0 d0 (some d1) 1, .bool (d2)]) [⟨true, .ints .i64 4 d3⟩]) (fun d0 => K (.tup [.nils, .bool (d0)]) [])) := by kernel_rfl

theorem spec_l02Fault.l0_eq {ρ : Type} (N : Nat) (K : AV → Heap → Option ρ) (c0 : Nat → Int) (c1 : Nat → Int) :
    ∀ (m : Nat) (m2 : Int), xloop (xcode (E13 N) ents spec_l02Fault.kp 0 N (cL (cK (cB (cA (cB (cB spec_l02Fault.bd)))))) 0) spec_l02Fault.kp 0 0 m (spec_l02Fault.st0 c0 c1 m2) (spec_l02Fault.k0 N K) = (spec_l02Fault.l0 N (fun d0 d1 d2 d3 => K (.tup [.slice 0 0 d0 (some d1) 1, .bool (d2)]) [⟨true, .ints .i64 4 d3⟩]) (fun d0 => K (.tup [.nils, .bool (d0)]) []) c0 c1 ((spec_l02Fault.k0 N K) (.exit 0) (spec_l02Fault.sx0_0 c0 c1)) m m2) := by
  intro m
  induction m with
  | zero => intros; rfl
  | succ m ih =>
    intro m2
    refine (spec_l02Fault.b0_eq N K (fun s => xloop (xcode (E13 N) ents spec_l02Fault.kp 0 N (cL (cK (cB (cA (cB (cB spec_l02Fault.bd)))))) 0) spec_l02Fault.kp 0 0 m s (spec_l02Fault.k0 N K)) c0 c1 m2).trans ?_
    simp only [ih]
    kernel_rfl

theorem spec_l02Fault.s_eq {ρ : Type} (N : Nat) (K : AV → Heap → Option ρ) (c0 : Nat → Int) (c1 : Nat → Int) :
    xbody (E13 N) ents spec_l02Fault.kp N Go.Proofs.Try.f59 spec_l02Fault.bd [.agg [⟨.i64, 2, c0⟩, ⟨.u8, 520, c1⟩]] [] K = (spec_l02Fault.s N (fun d0 d1 d2 d3 => K (.tup [.slice 0 0 d0 (some d1) 1, .bool (d2)]) [⟨true, .ints .i64 4 d3⟩]) (fun d0 => K (.tup [.nils, .bool (d0)]) []) (fun m2 => xloop (xcode (E13 N) ents spec_l02Fault.kp 0 N (cL (cK (cB (cA (cB (cB spec_l02Fault.bd)))))) 0) spec_l02Fault.kp 0 0 N (spec_l02Fault.st0 c0 c1 m2) (spec_l02Fault.k0 N K))) := by kernel_rfl

theorem spec_l02Fault.eq {ρ : Type} (N : Nat) (K : AV → Heap → Option ρ) (c0 : Nat → Int) (c1 : Nat → Int) :
    xbody (E13 N) ents spec_l02Fault.kp N Go.Proofs.Try.f59 spec_l02Fault.bd [.agg [⟨.i64, 2, c0⟩, ⟨.u8, 520, c1⟩]] [] K = (spec_l02Fault N (fun d0 d1 d2 d3 => K (.tup [.slice 0 0 d0 (some d1) 1, .bool (d2)]) [⟨true, .ints .i64 4 d3⟩]) (fun d0 => K (.tup [.nils, .bool (d0)]) []) c0 c1) := by
  refine (spec_l02Fault.s_eq N K c0 c1).trans ?_
  simp only [spec_l02Fault.l0_eq, spec_l02Fault.a0_0_eq]
  kernel_rfl

noncomputable def spec_l02Fault.en (N : Nat) (ρ : Type) : List AV → Heap → (AV → Heap → Option ρ) → Option ρ
  | [.agg [⟨.i64, 2, c0⟩, ⟨.u8, 520, c1⟩]], [], K => (spec_l02Fault N (fun d0 d1 d2 d3 => K (.tup [.slice 0 0 d0 (some d1) 1, .bool (d2)]) [⟨true, .ints .i64 4 d3⟩]) (fun d0 => K (.tup [.nils, .bool (d0)]) []) c0 c1)
  | _, _, _ => none

theorem spec_l02Fault.en_ok (N : Nat) (hE : EnvOk (E13 N) ents) (ρ : Type) (args : List AV) (sh : Heap) (K : AV → Heap → Option ρ) (r : ρ) (h : spec_l02Fault.en N ρ args sh K = some r) : ∃ v sh', K v sh' = some r ∧ FnOk (E13 N).P 59 args sh v sh' := by
  unfold spec_l02Fault.en at h
  split at h
  · exact fn_ok hE (kp := spec_l02Fault.kp) (N := N) Go.Proofs.Try.func59 (c := spec_l02Fault.bd) (by kernel_rfl) ((spec_l02Fault.eq N _ _ _).trans h)
  · cases h

noncomputable def E14 (N : Nat) : Env := (E13 N).add 59 (spec_l02Fault.en N)

theorem E14_ok (N : Nat) : EnvOk (E14 N) ents := Env.add_ok (E13_ok N) (spec_l02Fault.en_ok N (E13_ok N))

noncomputable def spec_l01Add.kp : Keeps := ⟨[(0, [0, 3, 5, 6, 8, 9], 3)], [(0, [5, 8], 3)]⟩

noncomputable def spec_l01Add.bd : Code := bodyOf Go.Proofs.Try.f78

noncomputable def spec_l01Add.fin {ρ : Type} (N : Nat) (K : AV → Heap → Option ρ) : XE → St → Option ρ := finK (E14 N) Go.Proofs.Try.f78 [] K

noncomputable def spec_l01Add.k0 {ρ : Type} (N : Nat) (K : AV → Heap → Option ρ) : XE → St → Option ρ := (blockK spec_l01Add.kp 0 0 (seqK (xcode (E14 N) ents spec_l01Add.kp 0 N (cB (cB spec_l01Add.bd)) 0) (spec_l01Add.fin N K)))

theorem spec_l01Add.k0_mix {ρ : Type} (N : Nat) (K : AV → Heap → Option ρ) : mixK (spec_l01Add.fin N K .ret) (spec_l01Add.k0 N K) = (spec_l01Add.k0 N K) := by
  funext e s; cases e <;> rfl

noncomputable def spec_l01Add.st0 (p0 : Int) (w2 : Nat → Int) (k3 : Int) (i4 : Int) (g5 : Nat → Int) : St := ⟨sl 30 [(0, .int .i64 (p0)), (3, .int .i64 (k3)), (5, .sptr [(0, 8)]), (6, .sptr [(1, 8)]), (8, .sptr [(2, 8)]), (9, .int .i64 (i4))], [⟨true, .ints .u8 8 g5⟩, ⟨true, .ints .u8 8 w2⟩, ⟨true, .ints .u8 8 (fun _ => 0)⟩]⟩

noncomputable def spec_l01Add.sx0_0 (w2 : Nat → Int) (o7 : Nat → Int) : St := ⟨sl 30 [(5, .sptr [(0, 8)]), (8, .sptr [(2, 8)])], [⟨true, .ints .u8 8 o7⟩, ⟨true, .ints .u8 8 w2⟩, ⟨true, .ints .u8 8 (fun _ => 0)⟩]⟩

theorem spec_l01Add.b0_gen {ρ : Type} (N : Nat) (K : AV → Heap → Option ρ) (L0 : St → Option ρ) (kv : XE → St → Option ρ) (p0 : Int) (w2 : Nat → Int) (k3 : Int) (i4 : Int) (g5 : Nat → Int) :
    xcode (E14 N) ents spec_l01Add.kp 0 N (cL (cK (cB (cA (cB spec_l01Add.bd))))) 0 (spec_l01Add.st0 p0 w2 k3 i4 g5) (roundK spec_l01Add.kp 0 0 L0 (mixK (spec_l01Add.fin N K .ret) kv)) = (spec_l01Add.b0 N (fun d0 => K (.agg [⟨.u8, 8, d0⟩]) []) (fun i4 g5 => L0 (spec_l01Add.st0 p0 w2 k3 i4 g5)) (fun o7 => kv (.exit 0) (spec_l01Add.sx0_0 w2 o7)) p0 w2 k3 i4 g5) := by kernel_rfl

theorem spec_l01Add.b0_eq {ρ : Type} (N : Nat) (K : AV → Heap → Option ρ) (L0 : St → Option ρ) (p0 : Int) (w2 : Nat → Int) (k3 : Int) (i4 : Int) (g5 : Nat → Int) :
    xcode (E14 N) ents spec_l01Add.kp 0 N (cL (cK (cB (cA (cB spec_l01Add.bd))))) 0 (spec_l01Add.st0 p0 w2 k3 i4 g5) (roundK spec_l01Add.kp 0 0 L0 (spec_l01Add.k0 N K)) = (spec_l01Add.b0 N (fun d0 => K (.agg [⟨.u8, 8, d0⟩]) []) (fun i4 g5 => L0 (spec_l01Add.st0 p0 w2 k3 i4 g5)) (fun o7 => (spec_l01Add.k0 N K) (.exit 0) (spec_l01Add.sx0_0 w2 o7)) p0 w2 k3 i4 g5) := by
  have h := spec_l01Add.b0_gen N K L0 (spec_l01Add.k0 N K) p0 w2 k3 i4 g5
  rw [spec_l01Add.k0_mix] at h
  exact h

theorem spec_l01Add.a0_0_eq {ρ : Type} (N : Nat) (K : AV → Heap → Option ρ) (w2 : Nat → Int) (o7 : Nat → Int) :
    (spec_l01Add.k0 N K) (.exit 0) (spec_l01Add.sx0_0 w2 o7) = (spec_l01Add.a0_0 N (fun d0 => K (.agg [⟨.u8, 8, d0⟩]) []) o7) := by kernel_rfl

theorem spec_l01Add.l0_eq {ρ : Type} (N : Nat) (K : AV → Heap → Option ρ) (p0 : Int) (w2 : Nat → Int) (k3 : Int) :
    ∀ (m : Nat) (i4 : Int) (g5 : Nat → Int), xloop (xcode (E14 N) ents spec_l01Add.kp 0 N (cL (cK (cB (cA (cB spec_l01Add.bd))))) 0) spec_l01Add.kp 0 0 m (spec_l01Add.st0 p0 w2 k3 i4 g5) (spec_l01Add.k0 N K) = (spec_l01Add.l0 N (fun d0 => K (.agg [⟨.u8, 8, d0⟩]) []) p0 w2 k3 (fun o7 => (spec_l01Add.k0 N K) (.exit 0) (spec_l01Add.sx0_0 w2 o7)) m i4 g5) := by
  intro m
  induction m with
  | zero => intros; rfl
  | succ m ih =>
    intro i4 g5
    refine (spec_l01Add.b0_eq N K (fun s => xloop (xcode (E14 N) ents spec_l01Add.kp 0 N (cL (cK (cB (cA (cB spec_l01Add.bd))))) 0) spec_l01Add.kp 0 0 m s (spec_l01Add.k0 N K)) p0 w2 k3 i4 g5).trans ?_
    simp only [ih]
    kernel_rfl

theorem spec_l01Add.s_eq {ρ : Type} (N : Nat) (K : AV → Heap → Option ρ) (p0 : Int) (v1 : Nat → Int) (w2 : Nat → Int) (k3 : Int) :
    xbody (E14 N) ents spec_l01Add.kp N Go.Proofs.Try.f78 spec_l01Add.bd [.int .i64 (p0), .agg [⟨.u8, 8, v1⟩], .agg [⟨.u8, 8, w2⟩], .int .i64 (k3)] [] K = (spec_l01Add.s N (fun d0 => K (.agg [⟨.u8, 8, d0⟩]) []) (fun i4 g5 => xloop (xcode (E14 N) ents spec_l01Add.kp 0 N (cL (cK (cB (cA (cB spec_l01Add.bd))))) 0) spec_l01Add.kp 0 0 N (spec_l01Add.st0 p0 w2 k3 i4 g5) (spec_l01Add.k0 N K)) v1) := by kernel_rfl

theorem spec_l01Add.eq {ρ : Type} (N : Nat) (K : AV → Heap → Option ρ) (p0 : Int) (v1 : Nat → Int) (w2 : Nat → Int) (k3 : Int) :
    xbody (E14 N) ents spec_l01Add.kp N Go.Proofs.Try.f78 spec_l01Add.bd [.int .i64 (p0), .agg [⟨.u8, 8, v1⟩], .agg [⟨.u8, 8, w2⟩], .int .i64 (k3)] [] K = (spec_l01Add N (fun d0 => K (.agg [⟨.u8, 8, d0⟩]) []) p0 v1 w2 k3) := by
  refine (spec_l01Add.s_eq N K p0 v1 w2 k3).trans ?_
  simp only [spec_l01Add.l0_eq, spec_l01Add.a0_0_eq]
  kernel_rfl

noncomputable def spec_l01Add.en (N : Nat) (ρ : Type) : List AV → Heap → (AV → Heap → Option ρ) → Option ρ
  | [.int .i64 (p0), .agg [⟨.u8, 8, v1⟩], .agg [⟨.u8, 8, w2⟩], .int .i64 (k3)], [], K => (spec_l01Add N (fun d0 => K (.agg [⟨.u8, 8, d0⟩]) []) p0 v1 w2 k3)
  | _, _, _ => none

theorem spec_l01Add.en_ok (N : Nat) (hE : EnvOk (E14 N) ents) (ρ : Type) (args : List AV) (sh : Heap) (K : AV → Heap → Option ρ) (r : ρ) (h : spec_l01Add.en N ρ args sh K = some r) : ∃ v sh', K v sh' = some r ∧ FnOk (E14 N).P 78 args sh v sh' := by
  unfold spec_l01Add.en at h
  split at h
  · exact fn_ok hE (kp := spec_l01Add.kp) (N := N) Go.Proofs.Try.func78 (c := spec_l01Add.bd) (by kernel_rfl) ((spec_l01Add.eq N _ _ _ _ _).trans h)
  · cases h

noncomputable def E15 (N : Nat) : Env := (E14 N).add 78 (spec_l01Add.en N)

theorem E15_ok (N : Nat) : EnvOk (E15 N) ents := Env.add_ok (E14_ok N) (spec_l01Add.en_ok N (E14_ok N))

noncomputable def spec_l01Basis.kp : Keeps := ⟨[], []⟩

noncomputable def spec_l01Basis.bd : Code := bodyOf Go.Proofs.Try.f125

noncomputable def spec_l01Basis.fin {ρ : Type} (N : Nat) (K : AV → Heap → Option ρ) : XE → St → Option ρ := finK (E15 N) Go.Proofs.Try.f125 [] K

theorem spec_l01Basis.eq {ρ : Type} (N : Nat) (K : AV → Heap → Option ρ) (i0 : Int) :
    xbody (E15 N) ents spec_l01Basis.kp N Go.Proofs.Try.f125 spec_l01Basis.bd [.int .i64 (i0)] [] K = (spec_l01Basis N (fun d0 => K (.agg [⟨.u8, 8, d0⟩]) []) i0) := by kernel_rfl

noncomputable def spec_l01Basis.en (N : Nat) (ρ : Type) : List AV → Heap → (AV → Heap → Option ρ) → Option ρ
  | [.int .i64 (i0)], [], K => (spec_l01Basis N (fun d0 => K (.agg [⟨.u8, 8, d0⟩]) []) i0)
  | _, _, _ => none

theorem spec_l01Basis.en_ok (N : Nat) (hE : EnvOk (E15 N) ents) (ρ : Type) (args : List AV) (sh : Heap) (K : AV → Heap → Option ρ) (r : ρ) (h : spec_l01Basis.en N ρ args sh K = some r) : ∃ v sh', K v sh' = some r ∧ FnOk (E15 N).P 125 args sh v sh' := by
  unfold spec_l01Basis.en at h
  split at h
  · exact fn_ok hE (kp := spec_l01Basis.kp) (N := N) Go.Proofs.Try.func125 (c := spec_l01Basis.bd) (by kernel_rfl) ((spec_l01Basis.eq N _ _).trans h)
  · cases h

noncomputable def E16 (N : Nat) : Env := (E15 N).add 125 (spec_l01Basis.en N)

theorem E16_ok (N : Nat) : EnvOk (E16 N) ents := Env.add_ok (E15_ok N) (spec_l01Basis.en_ok N (E15_ok N))

noncomputable def spec_l02Counits.kp : Keeps := ⟨[(0, [1, 3], 2), (2, [1, 3, 4, 5, 6], 4), (4, [1, 3, 4, 5, 6, 7, 8], 4)], [(0, [], 2), (2, [1, 3, 4, 5], 4), (4, [1, 3, 4, 5, 6, 7], 4)]⟩

noncomputable def spec_l02Counits.bd : Code := bodyOf Go.Proofs.Try.f93

noncomputable def spec_l02Counits.fin {ρ : Type} (N : Nat) (K : AV → Heap → Option ρ) : XE → St → Option ρ := finK (E16 N) Go.Proofs.Try.f93 [] K

noncomputable def spec_l02Counits.k0 {ρ : Type} (N : Nat) (K : AV → Heap → Option ρ) : XE → St → Option ρ := (blockK spec_l02Counits.kp 0 0 (seqK (xcode (E16 N) ents spec_l02Counits.kp 0 N (cB (cB spec_l02Counits.bd)) 0) (spec_l02Counits.fin N K)))

theorem spec_l02Counits.k0_mix {ρ : Type} (N : Nat) (K : AV → Heap → Option ρ) : mixK (spec_l02Counits.fin N K .ret) (spec_l02Counits.k0 N K) = (spec_l02Counits.k0 N K) := by
  funext e s; cases e <;> rfl

noncomputable def spec_l02Counits.st0 (c0 : Nat → Int) (c1 : Nat → Int) (i2 : Int) : St := ⟨sl 77 [(1, .sptr [(0, 2), (1, 520)]), (3, .int .i64 (i2))], [⟨true, .ints .i64 2 c0⟩, ⟨true, .ints .u8 520 c1⟩]⟩

noncomputable def spec_l02Counits.sx0_0 (c0 : Nat → Int) (c1 : Nat → Int) : St := ⟨sl 77 [], [⟨true, .ints .i64 2 c0⟩, ⟨true, .ints .u8 520 c1⟩]⟩

noncomputable def spec_l02Counits.k1g {ρ : Type} (N : Nat) (L0 : St → Option ρ) (kv : XE → St → Option ρ) : XE → St → Option ρ := (blockK spec_l02Counits.kp 0 2 (seqK (xcode (E16 N) ents spec_l02Counits.kp 0 N (cB (cB (cK (cA (cB (cL (cK (cB (cA (cB spec_l02Counits.bd)))))))))) 1) (blockK spec_l02Counits.kp 0 1 (seqK (xcode (E16 N) ents spec_l02Counits.kp 0 N (cB (cB (cL (cK (cB (cA (cB spec_l02Counits.bd))))))) 0) (roundK spec_l02Counits.kp 0 0 L0 kv)))))

theorem spec_l02Counits.k1_mix {ρ : Type} (N : Nat) (K : AV → Heap → Option ρ) (L0 : St → Option ρ) : mixK (spec_l02Counits.fin N K .ret) (spec_l02Counits.k1g N L0 (spec_l02Counits.k0 N K)) = (spec_l02Counits.k1g N L0 (spec_l02Counits.k0 N K)) := by
  funext e s; cases e <;> rfl

noncomputable def spec_l02Counits.st1 (c0 : Nat → Int) (c1 : Nat → Int) (i2 : Int) (j3 : Int) (g4 : Nat → Int) (g5 : Nat → Int) : St := ⟨sl 77 [(1, .sptr [(0, 2), (1, 520)]), (3, .int .i64 (i2)), (4, .sptr [(2, 8)]), (5, .sptr [(3, 8)]), (6, .int .i64 (j3))], [⟨true, .ints .i64 2 c0⟩, ⟨true, .ints .u8 520 c1⟩, ⟨true, .ints .u8 8 g4⟩, ⟨true, .ints .u8 8 g5⟩]⟩

noncomputable def spec_l02Counits.sx1_0 (c0 : Nat → Int) (c1 : Nat → Int) (i2 : Int) (o11 : Nat → Int) (o12 : Nat → Int) : St := ⟨sl 77 [(1, .sptr [(0, 2), (1, 520)]), (3, .int .i64 (i2)), (4, .sptr [(2, 8)]), (5, .sptr [(3, 8)])], [⟨true, .ints .i64 2 c0⟩, ⟨true, .ints .u8 520 c1⟩, ⟨true, .ints .u8 8 o11⟩, ⟨true, .ints .u8 8 o12⟩]⟩

noncomputable def spec_l02Counits.k2g {ρ : Type} (N : Nat) (L1 : St → Option ρ) (kv : XE → St → Option ρ) : XE → St → Option ρ := (blockK spec_l02Counits.kp 0 4 (seqK (xcode (E16 N) ents spec_l02Counits.kp 0 N (cB (cB (cB (cK (cA (cB (cL (cK (cB (cA (cB (cK (cA (cB (cL (cK (cB (cA (cB spec_l02Counits.bd))))))))))))))))))) 3) (blockK spec_l02Counits.kp 0 3 (seqK (xcode (E16 N) ents spec_l02Counits.kp 0 N (cB (cB (cL (cK (cB (cA (cB (cK (cA (cB (cL (cK (cB (cA (cB spec_l02Counits.bd))))))))))))))) 2) (roundK spec_l02Counits.kp 0 2 L1 kv)))))

theorem spec_l02Counits.k2_mix {ρ : Type} (N : Nat) (K : AV → Heap → Option ρ) (L0 : St → Option ρ) (L1 : St → Option ρ) : mixK (spec_l02Counits.fin N K .ret) (spec_l02Counits.k2g N L1 (spec_l02Counits.k1g N L0 (spec_l02Counits.k0 N K))) = (spec_l02Counits.k2g N L1 (spec_l02Counits.k1g N L0 (spec_l02Counits.k0 N K))) := by
  funext e s; cases e <;> rfl

noncomputable def spec_l02Counits.st2 (c0 : Nat → Int) (c1 : Nat → Int) (i2 : Int) (j3 : Int) (g5 : Nat → Int) (r6 : Nat → Int) (sum7 : Int) (k8 : Int) : St := ⟨sl 77 [(1, .sptr [(0, 2), (1, 520)]), (3, .int .i64 (i2)), (4, .sptr [(2, 8)]), (5, .sptr [(3, 8)]), (6, .int .i64 (j3)), (7, .int .i64 (sum7)), (8, .int .i64 (k8))], [⟨true, .ints .i64 2 c0⟩, ⟨true, .ints .u8 520 c1⟩, ⟨true, .ints .u8 8 r6⟩, ⟨true, .ints .u8 8 g5⟩]⟩

noncomputable def spec_l02Counits.sx2_0 (c0 : Nat → Int) (c1 : Nat → Int) (i2 : Int) (j3 : Int) (g5 : Nat → Int) (r6 : Nat → Int) (o9 : Int) : St := ⟨sl 77 [(1, .sptr [(0, 2), (1, 520)]), (3, .int .i64 (i2)), (4, .sptr [(2, 8)]), (5, .sptr [(3, 8)]), (6, .int .i64 (j3)), (7, .int .i64 (o9))], [⟨true, .ints .i64 2 c0⟩, ⟨true, .ints .u8 520 c1⟩, ⟨true, .ints .u8 8 r6⟩, ⟨true, .ints .u8 8 g5⟩]⟩

theorem spec_l02Counits.b2_gen {ρ : Type} (N : Nat) (K : AV → Heap → Option ρ) (L2 : St → Option ρ) (kv : XE → St → Option ρ) (c0 : Nat → Int) (c1 : Nat → Int) (i2 : Int) (j3 : Int) (g5 : Nat → Int) (r6 : Nat → Int) (sum7 : Int) (k8 : Int) :
    xcode (E16 N) ents spec_l02Counits.kp 0 N (cL (cK (cB (cA (cB (cB (cK (cA (cB (cL (cK (cB (cA (cB (cK (cA (cB (cL (cK (cB (cA (cB spec_l02Counits.bd)))))))))))))))))))))) 4 (spec_l02Counits.st2 c0 c1 i2 j3 g5 r6 sum7 k8) (roundK spec_l02Counits.kp 0 4 L2 (mixK (spec_l02Counits.fin N K .ret) kv)) = (spec_l02Counits.b2 N (fun d0 => K (.bool (d0)) []) (fun sum7 k8 => L2 (spec_l02Counits.st2 c0 c1 i2 j3 g5 r6 sum7 k8)) (fun o9 => kv (.exit 4) (spec_l02Counits.sx2_0 c0 c1 i2 j3 g5 r6 o9)) c0 c1 i2 j3 sum7 k8) := by kernel_rfl

theorem spec_l02Counits.b2_eq {ρ : Type} (N : Nat) (K : AV → Heap → Option ρ) (L0 : St → Option ρ) (L1 : St → Option ρ) (L2 : St → Option ρ) (c0 : Nat → Int) (c1 : Nat → Int) (i2 : Int) (j3 : Int) (g5 : Nat → Int) (r6 : Nat → Int) (sum7 : Int) (k8 : Int) :
    xcode (E16 N) ents spec_l02Counits.kp 0 N (cL (cK (cB (cA (cB (cB (cK (cA (cB (cL (cK (cB (cA (cB (cK (cA (cB (cL (cK (cB (cA (cB spec_l02Counits.bd)))))))))))))))))))))) 4 (spec_l02Counits.st2 c0 c1 i2 j3 g5 r6 sum7 k8) (roundK spec_l02Counits.kp 0 4 L2 (spec_l02Counits.k2g N L1 (spec_l02Counits.k1g N L0 (spec_l02Counits.k0 N K)))) = (spec_l02Counits.b2 N (fun d0 => K (.bool (d0)) []) (fun sum7 k8 => L2 (spec_l02Counits.st2 c0 c1 i2 j3 g5 r6 sum7 k8)) (fun o9 => (spec_l02Counits.k2g N L1 (spec_l02Counits.k1g N L0 (spec_l02Counits.k0 N K))) (.exit 4) (spec_l02Counits.sx2_0 c0 c1 i2 j3 g5 r6 o9)) c0 c1 i2 j3 sum7 k8) := by
  have h := spec_l02Counits.b2_gen N K L2 (spec_l02Counits.k2g N L1 (spec_l02Counits.k1g N L0 (spec_l02Counits.k0 N K))) c0 c1 i2 j3 g5 r6 sum7 k8
  rw [spec_l02Counits.k2_mix] at h
  exact h

theorem spec_l02Counits.a2_0_gen {ρ : Type} (N : Nat) (K : AV → Heap → Option ρ) (L1 : St → Option ρ) (kv : XE → St → Option ρ) (c0 : Nat → Int) (c1 : Nat → Int) (i2 : Int) (j3 : Int) (g5 : Nat → Int) (r6 : Nat → Int) (o9 : Int) :
    (spec_l02Counits.k2g N L1 (mixK (spec_l02Counits.fin N K .ret) kv)) (.exit 4) (spec_l02Counits.sx2_0 c0 c1 i2 j3 g5 r6 o9) = (spec_l02Counits.a2_0 N (fun d0 => K (.bool (d0)) []) (fun j3 g4 g5 => L1 (spec_l02Counits.st1 c0 c1 i2 j3 g4 g5)) (fun o11 o12 => kv (.exit 2) (spec_l02Counits.sx1_0 c0 c1 i2 o11 o12)) c0 j3 g5 r6 o9) := by kernel_rfl

theorem spec_l02Counits.a2_0_eq {ρ : Type} (N : Nat) (K : AV → Heap → Option ρ) (L0 : St → Option ρ) (L1 : St → Option ρ) (c0 : Nat → Int) (c1 : Nat → Int) (i2 : Int) (j3 : Int) (g5 : Nat → Int) (r6 : Nat → Int) (o9 : Int) :
    (spec_l02Counits.k2g N L1 (spec_l02Counits.k1g N L0 (spec_l02Counits.k0 N K))) (.exit 4) (spec_l02Counits.sx2_0 c0 c1 i2 j3 g5 r6 o9) = (spec_l02Counits.a2_0 N (fun d0 => K (.bool (d0)) []) (fun j3 g4 g5 => L1 (spec_l02Counits.st1 c0 c1 i2 j3 g4 g5)) (fun o11 o12 => (spec_l02Counits.k1g N L0 (spec_l02Counits.k0 N K)) (.exit 2) (spec_l02Counits.sx1_0 c0 c1 i2 o11 o12)) c0 j3 g5 r6 o9) := by
  have h := spec_l02Counits.a2_0_gen N K L1 (spec_l02Counits.k1g N L0 (spec_l02Counits.k0 N K)) c0 c1 i2 j3 g5 r6 o9
  rw [spec_l02Counits.k1_mix] at h
  exact h

theorem spec_l02Counits.b1_gen {ρ : Type} (N : Nat) (K : AV → Heap → Option ρ) (L1 : St → Option ρ) (kv : XE → St → Option ρ) (c0 : Nat → Int) (c1 : Nat → Int) (i2 : Int) (j3 : Int) (g4 : Nat → Int) (g5 : Nat → Int) :
    xcode (E16 N) ents spec_l02Counits.kp 0 N (cL (cK (cB (cA (cB (cK (cA (cB (cL (cK (cB (cA (cB spec_l02Counits.bd))))))))))))) 2 (spec_l02Counits.st1 c0 c1 i2 j3 g4 g5) (roundK spec_l02Counits.kp 0 2 L1 (mixK (spec_l02Counits.fin N K .ret) kv)) = (spec_l02Counits.b1 N (fun d0 => K (.bool (d0)) []) (fun r6 sum7 k8 => xloop (xcode (E16 N) ents spec_l02Counits.kp 0 N (cL (cK (cB (cA (cB (cB (cK (cA (cB (cL (cK (cB (cA (cB (cK (cA (cB (cL (cK (cB (cA (cB spec_l02Counits.bd)))))))))))))))))))))) 4) spec_l02Counits.kp 0 4 N (spec_l02Counits.st2 c0 c1 i2 j3 g5 r6 sum7 k8) (spec_l02Counits.k2g N L1 (mixK (spec_l02Counits.fin N K .ret) kv))) (fun j3 g4 g5 => L1 (spec_l02Counits.st1 c0 c1 i2 j3 g4 g5)) (fun o11 o12 => kv (.exit 2) (spec_l02Counits.sx1_0 c0 c1 i2 o11 o12)) c0 c1 i2 j3 g4 g5) := by kernel_rfl

theorem spec_l02Counits.b1_eq {ρ : Type} (N : Nat) (K : AV → Heap → Option ρ) (L0 : St → Option ρ) (L1 : St → Option ρ) (c0 : Nat → Int) (c1 : Nat → Int) (i2 : Int) (j3 : Int) (g4 : Nat → Int) (g5 : Nat → Int) :
    xcode (E16 N) ents spec_l02Counits.kp 0 N (cL (cK (cB (cA (cB (cK (cA (cB (cL (cK (cB (cA (cB spec_l02Counits.bd))))))))))))) 2 (spec_l02Counits.st1 c0 c1 i2 j3 g4 g5) (roundK spec_l02Counits.kp 0 2 L1 (spec_l02Counits.k1g N L0 (spec_l02Counits.k0 N K))) = (spec_l02Counits.b1 N (fun d0 => K (.bool (d0)) []) (fun r6 sum7 k8 => xloop (xcode (E16 N) ents spec_l02Counits.kp 0 N (cL (cK (cB (cA (cB (cB (cK (cA (cB (cL (cK (cB (cA (cB (cK (cA (cB (cL (cK (cB (cA (cB spec_l02Counits.bd)))))))))))))))))))))) 4) spec_l02Counits.kp 0 4 N (spec_l02Counits.st2 c0 c1 i2 j3 g5 r6 sum7 k8) (spec_l02Counits.k2g N L1 (spec_l02Counits.k1g N L0 (spec_l02Counits.k0 N K)))) (fun j3 g4 g5 => L1 (spec_l02Counits.st1 c0 c1 i2 j3 g4 g5)) (fun o11 o12 => (spec_l02Counits.k1g N L0 (spec_l02Counits.k0 N K)) (.exit 2) (spec_l02Counits.sx1_0 c0 c1 i2 o11 o12)) c0 c1 i2 j3 g4 g5) := by
  have h := spec_l02Counits.b1_gen N K L1 (spec_l02Counits.k1g N L0 (spec_l02Counits.k0 N K)) c0 c1 i2 j3 g4 g5
  rw [spec_l02Counits.k1_mix] at h
  exact h

theorem spec_l02Counits.a1_0_gen {ρ : Type} (N : Nat) (K : AV → Heap → Option ρ) (L0 : St → Option ρ) (kv : XE → St → Option ρ) (c0 : Nat → Int) (c1 : Nat → Int) (i2 : Int) (o11 : Nat → Int) (o12 : Nat → Int) :
    (spec_l02Counits.k1g N L0 (mixK (spec_l02Counits.fin N K .ret) kv)) (.exit 2) (spec_l02Counits.sx1_0 c0 c1 i2 o11 o12) = (spec_l02Counits.a1_0 N (fun d0 => K (.bool (d0)) []) (fun i2 => L0 (spec_l02Counits.st0 c0 c1 i2)) (kv (.exit 0) (spec_l02Counits.sx0_0 c0 c1)) i2 o11 o12) := by kernel_rfl

theorem spec_l02Counits.a1_0_eq {ρ : Type} (N : Nat) (K : AV → Heap → Option ρ) (L0 : St → Option ρ) (c0 : Nat → Int) (c1 : Nat → Int) (i2 : Int) (o11 : Nat → Int) (o12 : Nat → Int) :
    (spec_l02Counits.k1g N L0 (spec_l02Counits.k0 N K)) (.exit 2) (spec_l02Counits.sx1_0 c0 c1 i2 o11 o12) = (spec_l02Counits.a1_0 N (fun d0 => K (.bool (d0)) []) (fun i2 => L0 (spec_l02Counits.st0 c0 c1 i2)) ((spec_l02Counits.k0 N K) (.exit 0) (spec_l02Counits.sx0_0 c0 c1)) i2 o11 o12) := by
  have h := spec_l02Counits.a1_0_gen N K L0 (spec_l02Counits.k0 N K) c0 c1 i2 o11 o12
  rw [spec_l02Counits.k0_mix] at h
  exact h

theorem spec_l02Counits.b0_gen {ρ : Type} (N : Nat) (K : AV → Heap → Option ρ) (L0 : St → Option ρ) (kv : XE → St → Option ρ) (c0 : Nat → Int) (c1 : Nat → Int) (i2 : Int) :
    xcode (E16 N) ents spec_l02Counits.kp 0 N (cL (cK (cB (cA (cB spec_l02Counits.bd))))) 0 (spec_l02Counits.st0 c0 c1 i2) (roundK spec_l02Counits.kp 0 0 L0 (mixK (spec_l02Counits.fin N K .ret) kv)) = (spec_l02Counits.b0 N (fun d0 => K (.bool (d0)) []) (fun j3 g4 g5 => xloop (xcode (E16 N) ents spec_l02Counits.kp 0 N (cL (cK (cB (cA (cB (cK (cA (cB (cL (cK (cB (cA (cB spec_l02Counits.bd))))))))))))) 2) spec_l02Counits.kp 0 2 N (spec_l02Counits.st1 c0 c1 i2 j3 g4 g5) (spec_l02Counits.k1g N L0 (mixK (spec_l02Counits.fin N K .ret) kv))) (fun i2 => L0 (spec_l02Counits.st0 c0 c1 i2)) (kv (.exit 0) (spec_l02Counits.sx0_0 c0 c1)) c0 i2) := by kernel_rfl

theorem spec_l02Counits.b0_eq {ρ : Type} (N : Nat) (K : AV → Heap → Option ρ) (L0 : St → Option ρ) (c0 : Nat → Int) (c1 : Nat → Int) (i2 : Int) :
    xcode (E16 N) ents spec_l02Counits.kp 0 N (cL (cK (cB (cA (cB spec_l02Counits.bd))))) 0 (spec_l02Counits.st0 c0 c1 i2) (roundK spec_l02Counits.kp 0 0 L0 (spec_l02Counits.k0 N K)) = (spec_l02Counits.b0 N (fun d0 => K (.bool (d0)) []) (fun j3 g4 g5 => xloop (xcode (E16 N) ents spec_l02Counits.kp 0 N (cL (cK (cB (cA (cB (cK (cA (cB (cL (cK (cB (cA (cB spec_l02Counits.bd))))))))))))) 2) spec_l02Counits.kp 0 2 N (spec_l02Counits.st1 c0 c1 i2 j3 g4 g5) (spec_l02Counits.k1g N L0 (spec_l02Counits.k0 N K))) (fun i2 => L0 (spec_l02Counits.st0 c0 c1 i2)) ((spec_l02Counits.k0 N K) (.exit 0) (spec_l02Counits.sx0_0 c0 c1)) c0 i2) := by
  have h := spec_l02Counits.b0_gen N K L0 (spec_l02Counits.k0 N K) c0 c1 i2
  rw [spec_l02Counits.k0_mix] at h
  exact h

theorem spec_l02Counits.a0_0_eq {ρ : Type} (N : Nat) (K : AV → Heap → Option ρ) (c0 : Nat → Int) (c1 : Nat → Int) :
    (spec_l02Counits.k0 N K) (.exit 0) (spec_l02Counits.sx0_0 c0 c1) = (spec_l02Counits.a0_0 N (fun d0 => K (.bool (d0)) [])) := by kernel_rfl

theorem spec_l02Counits.l2_eq {ρ : Type} (N : Nat) (K : AV → Heap → Option ρ) (L0 : St → Option ρ) (L1 : St → Option ρ) (c0 : Nat → Int) (c1 : Nat → Int) (i2 : Int) (j3 : Int) (g5 : Nat → Int) (r6 : Nat → Int) :
    ∀ (m : Nat) (sum7 : Int) (k8 : Int), xloop (xcode (E16 N) ents spec_l02Counits.kp 0 N (cL (cK (cB (cA (cB (cB (cK (cA (cB (cL (cK (cB (cA (cB (cK (cA (cB (cL (cK (cB (cA (cB spec_l02Counits.bd)))))))))))))))))))))) 4) spec_l02Counits.kp 0 4 m (spec_l02Counits.st2 c0 c1 i2 j3 g5 r6 sum7 k8) (spec_l02Counits.k2g N L1 (spec_l02Counits.k1g N L0 (spec_l02Counits.k0 N K))) = (spec_l02Counits.l2 N (fun d0 => K (.bool (d0)) []) c0 c1 i2 j3 (fun o9 => (spec_l02Counits.k2g N L1 (spec_l02Counits.k1g N L0 (spec_l02Counits.k0 N K))) (.exit 4) (spec_l02Counits.sx2_0 c0 c1 i2 j3 g5 r6 o9)) m sum7 k8) := by
  intro m
  induction m with
  | zero => intros; rfl
  | succ m ih =>
    intro sum7 k8
    refine (spec_l02Counits.b2_eq N K L0 L1 (fun s => xloop (xcode (E16 N) ents spec_l02Counits.kp 0 N (cL (cK (cB (cA (cB (cB (cK (cA (cB (cL (cK (cB (cA (cB (cK (cA (cB (cL (cK (cB (cA (cB spec_l02Counits.bd)))))))))))))))))))))) 4) spec_l02Counits.kp 0 4 m s (spec_l02Counits.k2g N L1 (spec_l02Counits.k1g N L0 (spec_l02Counits.k0 N K)))) c0 c1 i2 j3 g5 r6 sum7 k8).trans ?_
    simp only [ih]
    kernel_rfl

theorem spec_l02Counits.l1_eq {ρ : Type} (N : Nat) (K : AV → Heap → Option ρ) (L0 : St → Option ρ) (c0 : Nat → Int) (c1 : Nat → Int) (i2 : Int) :
    ∀ (m : Nat) (j3 : Int) (g4 : Nat → Int) (g5 : Nat → Int), xloop (xcode (E16 N) ents spec_l02Counits.kp 0 N (cL (cK (cB (cA (cB (cK (cA (cB (cL (cK (cB (cA (cB spec_l02Counits.bd))))))))))))) 2) spec_l02Counits.kp 0 2 m (spec_l02Counits.st1 c0 c1 i2 j3 g4 g5) (spec_l02Counits.k1g N L0 (spec_l02Counits.k0 N K)) = (spec_l02Counits.l1 N (fun d0 => K (.bool (d0)) []) c0 c1 i2 (fun o11 o12 => (spec_l02Counits.k1g N L0 (spec_l02Counits.k0 N K)) (.exit 2) (spec_l02Counits.sx1_0 c0 c1 i2 o11 o12)) m j3 g4 g5) := by
  intro m
  induction m with
  | zero => intros; rfl
  | succ m ih =>
    intro j3 g4 g5
    refine (spec_l02Counits.b1_eq N K L0 (fun s => xloop (xcode (E16 N) ents spec_l02Counits.kp 0 N (cL (cK (cB (cA (cB (cK (cA (cB (cL (cK (cB (cA (cB spec_l02Counits.bd))))))))))))) 2) spec_l02Counits.kp 0 2 m s (spec_l02Counits.k1g N L0 (spec_l02Counits.k0 N K))) c0 c1 i2 j3 g4 g5).trans ?_
    simp only [ih, spec_l02Counits.l2_eq, spec_l02Counits.a2_0_eq]
    kernel_rfl

theorem spec_l02Counits.l0_eq {ρ : Type} (N : Nat) (K : AV → Heap → Option ρ) (c0 : Nat → Int) (c1 : Nat → Int) :
    ∀ (m : Nat) (i2 : Int), xloop (xcode (E16 N) ents spec_l02Counits.kp 0 N (cL (cK (cB (cA (cB spec_l02Counits.bd))))) 0) spec_l02Counits.kp 0 0 m (spec_l02Counits.st0 c0 c1 i2) (spec_l02Counits.k0 N K) = (spec_l02Counits.l0 N (fun d0 => K (.bool (d0)) []) c0 c1 ((spec_l02Counits.k0 N K) (.exit 0) (spec_l02Counits.sx0_0 c0 c1)) m i2) := by
  intro m
  induction m with
  | zero => intros; rfl
  | succ m ih =>
    intro i2
    refine (spec_l02Counits.b0_eq N K (fun s => xloop (xcode (E16 N) ents spec_l02Counits.kp 0 N (cL (cK (cB (cA (cB spec_l02Counits.bd))))) 0) spec_l02Counits.kp 0 0 m s (spec_l02Counits.k0 N K)) c0 c1 i2).trans ?_
    simp only [ih, spec_l02Counits.l1_eq, spec_l02Counits.a1_0_eq]
    kernel_rfl

theorem spec_l02Counits.s_eq {ρ : Type} (N : Nat) (K : AV → Heap → Option ρ) (c0 : Nat → Int) (c1 : Nat → Int) :
    xbody (E16 N) ents spec_l02Counits.kp N Go.Proofs.Try.f93 spec_l02Counits.bd [.agg [⟨.i64, 2, c0⟩, ⟨.u8, 520, c1⟩]] [] K = (spec_l02Counits.s N (fun d0 => K (.bool (d0)) []) (fun i2 => xloop (xcode (E16 N) ents spec_l02Counits.kp 0 N (cL (cK (cB (cA (cB spec_l02Counits.bd))))) 0) spec_l02Counits.kp 0 0 N (spec_l02Counits.st0 c0 c1 i2) (spec_l02Counits.k0 N K))) := by kernel_rfl

theorem spec_l02Counits.eq {ρ : Type} (N : Nat) (K : AV → Heap → Option ρ) (c0 : Nat → Int) (c1 : Nat → Int) :
    xbody (E16 N) ents spec_l02Counits.kp N Go.Proofs.Try.f93 spec_l02Counits.bd [.agg [⟨.i64, 2, c0⟩, ⟨.u8, 520, c1⟩]] [] K = (spec_l02Counits N (fun d0 => K (.bool (d0)) []) c0 c1) := by
  refine (spec_l02Counits.s_eq N K c0 c1).trans ?_
  simp only [spec_l02Counits.l0_eq, spec_l02Counits.a0_0_eq]
  kernel_rfl

noncomputable def spec_l02Counits.en (N : Nat) (ρ : Type) : List AV → Heap → (AV → Heap → Option ρ) → Option ρ
  | [.agg [⟨.i64, 2, c0⟩, ⟨.u8, 520, c1⟩]], [], K => (spec_l02Counits N (fun d0 => K (.bool (d0)) []) c0 c1)
  | _, _, _ => none

theorem spec_l02Counits.en_ok (N : Nat) (hE : EnvOk (E16 N) ents) (ρ : Type) (args : List AV) (sh : Heap) (K : AV → Heap → Option ρ) (r : ρ) (h : spec_l02Counits.en N ρ args sh K = some r) : ∃ v sh', K v sh' = some r ∧ FnOk (E16 N).P 93 args sh v sh' := by
  unfold spec_l02Counits.en at h
  split at h
  · exact fn_ok hE (kp := spec_l02Counits.kp) (N := N) Go.Proofs.Try.func93 (c := spec_l02Counits.bd) (by kernel_rfl) ((spec_l02Counits.eq N _ _ _).trans h)
  · cases h

noncomputable def E17 (N : Nat) : Env := (E16 N).add 93 (spec_l02Counits.en N)

theorem E17_ok (N : Nat) : EnvOk (E17 N) ents := Env.add_ok (E16_ok N) (spec_l02Counits.en_ok N (E16_ok N))

noncomputable def spec_l02Is.kp : Keeps := ⟨[], []⟩

noncomputable def spec_l02Is.bd : Code := bodyOf Go.Proofs.Try.f53

noncomputable def spec_l02Is.fin {ρ : Type} (N : Nat) (K : AV → Heap → Option ρ) : XE → St → Option ρ := finK (E17 N) Go.Proofs.Try.f53 [] K

theorem spec_l02Is.eq {ρ : Type} (N : Nat) (K : AV → Heap → Option ρ) (c0 : Nat → Int) (c1 : Nat → Int) :
    xbody (E17 N) ents spec_l02Is.kp N Go.Proofs.Try.f53 spec_l02Is.bd [.agg [⟨.i64, 2, c0⟩, ⟨.u8, 520, c1⟩]] [] K = (spec_l02Is N (fun d0 => K (.bool (d0)) []) c0 c1) := by kernel_rfl

noncomputable def spec_l02Is.en (N : Nat) (ρ : Type) : List AV → Heap → (AV → Heap → Option ρ) → Option ρ
  | [.agg [⟨.i64, 2, c0⟩, ⟨.u8, 520, c1⟩]], [], K => (spec_l02Is N (fun d0 => K (.bool (d0)) []) c0 c1)
  | _, _, _ => none

theorem spec_l02Is.en_ok (N : Nat) (hE : EnvOk (E17 N) ents) (ρ : Type) (args : List AV) (sh : Heap) (K : AV → Heap → Option ρ) (r : ρ) (h : spec_l02Is.en N ρ args sh K = some r) : ∃ v sh', K v sh' = some r ∧ FnOk (E17 N).P 53 args sh v sh' := by
  unfold spec_l02Is.en at h
  split at h
  · exact fn_ok hE (kp := spec_l02Is.kp) (N := N) Go.Proofs.Try.func53 (c := spec_l02Is.bd) (by kernel_rfl) ((spec_l02Is.eq N _ _ _).trans h)
  · cases h

noncomputable def E18 (N : Nat) : Env := (E17 N).add 53 (spec_l02Is.en N)

theorem E18_ok (N : Nat) : EnvOk (E18 N) ents := Env.add_ok (E17_ok N) (spec_l02Is.en_ok N (E17_ok N))

noncomputable def spec_IsCoalgebra.kp : Keeps := ⟨[], []⟩

noncomputable def spec_IsCoalgebra.bd : Code := bodyOf Go.Proofs.Try.f15

noncomputable def spec_IsCoalgebra.fin {ρ : Type} (N : Nat) (K : AV → Heap → Option ρ) : XE → St → Option ρ := finK (E18 N) Go.Proofs.Try.f15 [] K

theorem spec_IsCoalgebra.eq {ρ : Type} (N : Nat) (K : AV → Heap → Option ρ) (c0 : Nat → Int) (c1 : Nat → Int) :
    xbody (E18 N) ents spec_IsCoalgebra.kp N Go.Proofs.Try.f15 spec_IsCoalgebra.bd [.agg [⟨.i64, 2, c0⟩, ⟨.u8, 520, c1⟩]] [] K = (spec_IsCoalgebra N (fun d0 => K (.bool (d0)) []) c0 c1) := by kernel_rfl

noncomputable def spec_IsCoalgebra.en (N : Nat) (ρ : Type) : List AV → Heap → (AV → Heap → Option ρ) → Option ρ
  | [.agg [⟨.i64, 2, c0⟩, ⟨.u8, 520, c1⟩]], [], K => (spec_IsCoalgebra N (fun d0 => K (.bool (d0)) []) c0 c1)
  | _, _, _ => none

theorem spec_IsCoalgebra.en_ok (N : Nat) (hE : EnvOk (E18 N) ents) (ρ : Type) (args : List AV) (sh : Heap) (K : AV → Heap → Option ρ) (r : ρ) (h : spec_IsCoalgebra.en N ρ args sh K = some r) : ∃ v sh', K v sh' = some r ∧ FnOk (E18 N).P 15 args sh v sh' := by
  unfold spec_IsCoalgebra.en at h
  split at h
  · exact fn_ok hE (kp := spec_IsCoalgebra.kp) (N := N) Go.Proofs.Try.func15 (c := spec_IsCoalgebra.bd) (by kernel_rfl) ((spec_IsCoalgebra.eq N _ _ _).trans h)
  · cases h

noncomputable def E19 (N : Nat) : Env := (E18 N).add 15 (spec_IsCoalgebra.en N)

theorem E19_ok (N : Nat) : EnvOk (E19 N) ents := Env.add_ok (E18_ok N) (spec_IsCoalgebra.en_ok N (E18_ok N))

noncomputable def impl_IsPrime.kp : Keeps := ⟨[(0, [0, 3], 0)], [(0, [], 0)]⟩

noncomputable def impl_IsPrime.bd : Code := bodyOf Go.Proofs.Try.f126

noncomputable def impl_IsPrime.fin {ρ : Type} (N : Nat) (K : AV → Heap → Option ρ) : XE → St → Option ρ := finK (E19 N) Go.Proofs.Try.f126 [] K

noncomputable def impl_IsPrime.k0 {ρ : Type} (N : Nat) (K : AV → Heap → Option ρ) : XE → St → Option ρ := (blockK impl_IsPrime.kp 0 0 (seqK (xcode (E19 N) ents impl_IsPrime.kp 0 N (cB (cB (cB impl_IsPrime.bd))) 0) (impl_IsPrime.fin N K)))

theorem impl_IsPrime.k0_mix {ρ : Type} (N : Nat) (K : AV → Heap → Option ρ) : mixK (impl_IsPrime.fin N K .ret) (impl_IsPrime.k0 N K) = (impl_IsPrime.k0 N K) := by
  funext e s; cases e <;> rfl

noncomputable def impl_IsPrime.st0 (p0 : Int) (k1 : Int) : St := ⟨sl 21 [(0, .int .i64 (p0)), (3, .int .i64 (k1))], []⟩

noncomputable def impl_IsPrime.sx0_0 : St := ⟨sl 21 [], []⟩

theorem impl_IsPrime.b0_gen {ρ : Type} (N : Nat) (K : AV → Heap → Option ρ) (L0 : St → Option ρ) (kv : XE → St → Option ρ) (p0 : Int) (k1 : Int) :
    xcode (E19 N) ents impl_IsPrime.kp 0 N (cL (cK (cB (cA (cB (cB impl_IsPrime.bd)))))) 0 (impl_IsPrime.st0 p0 k1) (roundK impl_IsPrime.kp 0 0 L0 (mixK (impl_IsPrime.fin N K .ret) kv)) = (impl_IsPrime.b0 N (fun d0 => K (.bool (d0)) []) (fun k1 => L0 (impl_IsPrime.st0 p0 k1)) (kv (.exit 0) (impl_IsPrime.sx0_0)) p0 k1) := by kernel_rfl

theorem impl_IsPrime.b0_eq {ρ : Type} (N : Nat) (K : AV → Heap → Option ρ) (L0 : St → Option ρ) (p0 : Int) (k1 : Int) :
    xcode (E19 N) ents impl_IsPrime.kp 0 N (cL (cK (cB (cA (cB (cB impl_IsPrime.bd)))))) 0 (impl_IsPrime.st0 p0 k1) (roundK impl_IsPrime.kp 0 0 L0 (impl_IsPrime.k0 N K)) = (impl_IsPrime.b0 N (fun d0 => K (.bool (d0)) []) (fun k1 => L0 (impl_IsPrime.st0 p0 k1)) ((impl_IsPrime.k0 N K) (.exit 0) (impl_IsPrime.sx0_0)) p0 k1) := by
  have h := impl_IsPrime.b0_gen N K L0 (impl_IsPrime.k0 N K) p0 k1
  rw [impl_IsPrime.k0_mix] at h
  exact h

theorem impl_IsPrime.a0_0_eq {ρ : Type} (N : Nat) (K : AV → Heap → Option ρ) :
    (impl_IsPrime.k0 N K) (.exit 0) (impl_IsPrime.sx0_0) = (impl_IsPrime.a0_0 N (fun d0 => K (.bool (d0)) [])) := by kernel_rfl

theorem impl_IsPrime.l0_eq {ρ : Type} (N : Nat) (K : AV → Heap → Option ρ) (p0 : Int) :
    ∀ (m : Nat) (k1 : Int), xloop (xcode (E19 N) ents impl_IsPrime.kp 0 N (cL (cK (cB (cA (cB (cB impl_IsPrime.bd)))))) 0) impl_IsPrime.kp 0 0 m (impl_IsPrime.st0 p0 k1) (impl_IsPrime.k0 N K) = (impl_IsPrime.l0 N (fun d0 => K (.bool (d0)) []) p0 ((impl_IsPrime.k0 N K) (.exit 0) (impl_IsPrime.sx0_0)) m k1) := by
  intro m
  induction m with
  | zero => intros; rfl
  | succ m ih =>
    intro k1
    refine (impl_IsPrime.b0_eq N K (fun s => xloop (xcode (E19 N) ents impl_IsPrime.kp 0 N (cL (cK (cB (cA (cB (cB impl_IsPrime.bd)))))) 0) impl_IsPrime.kp 0 0 m s (impl_IsPrime.k0 N K)) p0 k1).trans ?_
    simp only [ih]
    kernel_rfl

theorem impl_IsPrime.s_eq {ρ : Type} (N : Nat) (K : AV → Heap → Option ρ) (p0 : Int) :
    xbody (E19 N) ents impl_IsPrime.kp N Go.Proofs.Try.f126 impl_IsPrime.bd [.int .i64 (p0)] [] K = (impl_IsPrime.s N (fun d0 => K (.bool (d0)) []) (fun k1 => xloop (xcode (E19 N) ents impl_IsPrime.kp 0 N (cL (cK (cB (cA (cB (cB impl_IsPrime.bd)))))) 0) impl_IsPrime.kp 0 0 N (impl_IsPrime.st0 p0 k1) (impl_IsPrime.k0 N K)) p0) := by kernel_rfl

theorem impl_IsPrime.eq {ρ : Type} (N : Nat) (K : AV → Heap → Option ρ) (p0 : Int) :
    xbody (E19 N) ents impl_IsPrime.kp N Go.Proofs.Try.f126 impl_IsPrime.bd [.int .i64 (p0)] [] K = (impl_IsPrime N (fun d0 => K (.bool (d0)) []) p0) := by
  refine (impl_IsPrime.s_eq N K p0).trans ?_
  simp only [impl_IsPrime.l0_eq, impl_IsPrime.a0_0_eq]
  kernel_rfl

noncomputable def impl_IsPrime.en (N : Nat) (ρ : Type) : List AV → Heap → (AV → Heap → Option ρ) → Option ρ
  | [.int .i64 (p0)], [], K => (impl_IsPrime N (fun d0 => K (.bool (d0)) []) p0)
  | _, _, _ => none

theorem impl_IsPrime.en_ok (N : Nat) (hE : EnvOk (E19 N) ents) (ρ : Type) (args : List AV) (sh : Heap) (K : AV → Heap → Option ρ) (r : ρ) (h : impl_IsPrime.en N ρ args sh K = some r) : ∃ v sh', K v sh' = some r ∧ FnOk (E19 N).P 126 args sh v sh' := by
  unfold impl_IsPrime.en at h
  split at h
  · exact fn_ok hE (kp := impl_IsPrime.kp) (N := N) Go.Proofs.Try.func126 (c := impl_IsPrime.bd) (by kernel_rfl) ((impl_IsPrime.eq N _ _).trans h)
  · cases h

noncomputable def E20 (N : Nat) : Env := (E19 N).add 126 (impl_IsPrime.en N)

theorem E20_ok (N : Nat) : EnvOk (E20 N) ents := Env.add_ok (E19_ok N) (impl_IsPrime.en_ok N (E19_ok N))

noncomputable def impl_in.kp : Keeps := ⟨[], []⟩

noncomputable def impl_in.bd : Code := bodyOf Go.Proofs.Try.f127

noncomputable def impl_in.fin {ρ : Type} (N : Nat) (K : AV → Heap → Option ρ) : XE → St → Option ρ := finK (E20 N) Go.Proofs.Try.f127 [] K

theorem impl_in.eq {ρ : Type} (N : Nat) (K : AV → Heap → Option ρ) (x0 : Int) (least1 : Int) (most2 : Int) :
    xbody (E20 N) ents impl_in.kp N Go.Proofs.Try.f127 impl_in.bd [.int .i64 (x0), .int .i64 (least1), .int .i64 (most2)] [] K = (impl_in N (fun d0 => K (.bool (d0)) []) x0 least1 most2) := by kernel_rfl

noncomputable def impl_in.en (N : Nat) (ρ : Type) : List AV → Heap → (AV → Heap → Option ρ) → Option ρ
  | [.int .i64 (x0), .int .i64 (least1), .int .i64 (most2)], [], K => (impl_in N (fun d0 => K (.bool (d0)) []) x0 least1 most2)
  | _, _, _ => none

theorem impl_in.en_ok (N : Nat) (hE : EnvOk (E20 N) ents) (ρ : Type) (args : List AV) (sh : Heap) (K : AV → Heap → Option ρ) (r : ρ) (h : impl_in.en N ρ args sh K = some r) : ∃ v sh', K v sh' = some r ∧ FnOk (E20 N).P 127 args sh v sh' := by
  unfold impl_in.en at h
  split at h
  · exact fn_ok hE (kp := impl_in.kp) (N := N) Go.Proofs.Try.func127 (c := impl_in.bd) (by kernel_rfl) ((impl_in.eq N _ _ _ _).trans h)
  · cases h

noncomputable def E21 (N : Nat) : Env := (E20 N).add 127 (impl_in.en N)

theorem E21_ok (N : Nat) : EnvOk (E21 N) ents := Env.add_ok (E20_ok N) (impl_in.en_ok N (E20_ok N))

noncomputable def impl_IsVector.kp : Keeps := ⟨[(0, [0, 1, 17, 18], 1)], [(0, [], 1)]⟩

noncomputable def impl_IsVector.bd : Code := bodyOf Go.Proofs.Try.f95

noncomputable def impl_IsVector.fin {ρ : Type} (N : Nat) (K : AV → Heap → Option ρ) : XE → St → Option ρ := finK (E21 N) Go.Proofs.Try.f95 [] K

noncomputable def impl_IsVector.k0 {ρ : Type} (N : Nat) (K : AV → Heap → Option ρ) : XE → St → Option ρ := (blockK impl_IsVector.kp 0 0 (seqK (xcode (E21 N) ents impl_IsVector.kp 0 N (cB (cB (cB impl_IsVector.bd))) 0) (impl_IsVector.fin N K)))

theorem impl_IsVector.k0_mix {ρ : Type} (N : Nat) (K : AV → Heap → Option ρ) : mixK (impl_IsVector.fin N K .ret) (impl_IsVector.k0 N K) = (impl_IsVector.k0 N K) := by
  funext e s; cases e <;> rfl

noncomputable def impl_IsVector.st0 (p0 : Int) (n1 : Int) (v2 : Nat → Int) (x5 : Int) : St := ⟨sl 36 [(0, .int .i64 (p0)), (1, .int .i64 (n1)), (17, .agg [⟨.u8, 8, v2⟩]), (18, .int .i64 (x5))], [⟨true, .ints .u8 8 v2⟩]⟩

noncomputable def impl_IsVector.sx0_0 (v2 : Nat → Int) : St := ⟨sl 36 [], [⟨true, .ints .u8 8 v2⟩]⟩

theorem impl_IsVector.b0_gen {ρ : Type} (N : Nat) (K : AV → Heap → Option ρ) (L0 : St → Option ρ) (kv : XE → St → Option ρ) (p0 : Int) (n1 : Int) (v2 : Nat → Int) (x5 : Int) :
    xcode (E21 N) ents impl_IsVector.kp 0 N (cL (cK (cB (cA (cB (cB impl_IsVector.bd)))))) 0 (impl_IsVector.st0 p0 n1 v2 x5) (roundK impl_IsVector.kp 0 0 L0 (mixK (impl_IsVector.fin N K .ret) kv)) = (impl_IsVector.b0 N (fun d0 => K (.bool (d0)) []) (fun x5 => L0 (impl_IsVector.st0 p0 n1 v2 x5)) (kv (.exit 0) (impl_IsVector.sx0_0 v2)) p0 n1 v2 x5) := by kernel_rfl

theorem impl_IsVector.b0_eq {ρ : Type} (N : Nat) (K : AV → Heap → Option ρ) (L0 : St → Option ρ) (p0 : Int) (n1 : Int) (v2 : Nat → Int) (x5 : Int) :
    xcode (E21 N) ents impl_IsVector.kp 0 N (cL (cK (cB (cA (cB (cB impl_IsVector.bd)))))) 0 (impl_IsVector.st0 p0 n1 v2 x5) (roundK impl_IsVector.kp 0 0 L0 (impl_IsVector.k0 N K)) = (impl_IsVector.b0 N (fun d0 => K (.bool (d0)) []) (fun x5 => L0 (impl_IsVector.st0 p0 n1 v2 x5)) ((impl_IsVector.k0 N K) (.exit 0) (impl_IsVector.sx0_0 v2)) p0 n1 v2 x5) := by
  have h := impl_IsVector.b0_gen N K L0 (impl_IsVector.k0 N K) p0 n1 v2 x5
  rw [impl_IsVector.k0_mix] at h
  exact h

theorem impl_IsVector.a0_0_eq {ρ : Type} (N : Nat) (K : AV → Heap → Option ρ) (v2 : Nat → Int) :
    (impl_IsVector.k0 N K) (.exit 0) (impl_IsVector.sx0_0 v2) = (impl_IsVector.a0_0 N (fun d0 => K (.bool (d0)) [])) := by kernel_rfl

theorem impl_IsVector.l0_eq {ρ : Type} (N : Nat) (K : AV → Heap → Option ρ) (p0 : Int) (n1 : Int) (v2 : Nat → Int) :
    ∀ (m : Nat) (x5 : Int), xloop (xcode (E21 N) ents impl_IsVector.kp 0 N (cL (cK (cB (cA (cB (cB impl_IsVector.bd)))))) 0) impl_IsVector.kp 0 0 m (impl_IsVector.st0 p0 n1 v2 x5) (impl_IsVector.k0 N K) = (impl_IsVector.l0 N (fun d0 => K (.bool (d0)) []) p0 n1 v2 ((impl_IsVector.k0 N K) (.exit 0) (impl_IsVector.sx0_0 v2)) m x5) := by
  intro m
  induction m with
  | zero => intros; rfl
  | succ m ih =>
    intro x5
    refine (impl_IsVector.b0_eq N K (fun s => xloop (xcode (E21 N) ents impl_IsVector.kp 0 N (cL (cK (cB (cA (cB (cB impl_IsVector.bd)))))) 0) impl_IsVector.kp 0 0 m s (impl_IsVector.k0 N K)) p0 n1 v2 x5).trans ?_
    simp only [ih]
    kernel_rfl

theorem impl_IsVector.s_eq {ρ : Type} (N : Nat) (K : AV → Heap → Option ρ) (p0 : Int) (n1 : Int) (v2 : Nat → Int) :
    xbody (E21 N) ents impl_IsVector.kp N Go.Proofs.Try.f95 impl_IsVector.bd [.int .i64 (p0), .int .i64 (n1), .agg [⟨.u8, 8, v2⟩]] [] K = (impl_IsVector.s N (fun d0 => K (.bool (d0)) []) (fun x5 => xloop (xcode (E21 N) ents impl_IsVector.kp 0 N (cL (cK (cB (cA (cB (cB impl_IsVector.bd)))))) 0) impl_IsVector.kp 0 0 N (impl_IsVector.st0 p0 n1 v2 x5) (impl_IsVector.k0 N K)) p0 n1) := by kernel_rfl

theorem impl_IsVector.eq {ρ : Type} (N : Nat) (K : AV → Heap → Option ρ) (p0 : Int) (n1 : Int) (v2 : Nat → Int) :
    xbody (E21 N) ents impl_IsVector.kp N Go.Proofs.Try.f95 impl_IsVector.bd [.int .i64 (p0), .int .i64 (n1), .agg [⟨.u8, 8, v2⟩]] [] K = (impl_IsVector N (fun d0 => K (.bool (d0)) []) p0 n1 v2) := by
  refine (impl_IsVector.s_eq N K p0 n1 v2).trans ?_
  simp only [impl_IsVector.l0_eq, impl_IsVector.a0_0_eq]
  kernel_rfl

noncomputable def impl_IsVector.en (N : Nat) (ρ : Type) : List AV → Heap → (AV → Heap → Option ρ) → Option ρ
  | [.int .i64 (p0), .int .i64 (n1), .agg [⟨.u8, 8, v2⟩]], [], K => (impl_IsVector N (fun d0 => K (.bool (d0)) []) p0 n1 v2)
  | _, _, _ => none

theorem impl_IsVector.en_ok (N : Nat) (hE : EnvOk (E21 N) ents) (ρ : Type) (args : List AV) (sh : Heap) (K : AV → Heap → Option ρ) (r : ρ) (h : impl_IsVector.en N ρ args sh K = some r) : ∃ v sh', K v sh' = some r ∧ FnOk (E21 N).P 95 args sh v sh' := by
  unfold impl_IsVector.en at h
  split at h
  · exact fn_ok hE (kp := impl_IsVector.kp) (N := N) Go.Proofs.Try.func95 (c := impl_IsVector.bd) (by kernel_rfl) ((impl_IsVector.eq N _ _ _ _).trans h)
  · cases h

noncomputable def E22 (N : Nat) : Env := (E21 N).add 95 (impl_IsVector.en N)

theorem E22_ok (N : Nat) : EnvOk (E22 N) ents := Env.add_ok (E21_ok N) (impl_IsVector.en_ok N (E21_ok N))

noncomputable def impl_isLinear.kp : Keeps := ⟨[(0, [0, 1, 2, 11, 12], 1)], [(0, [], 1)]⟩

noncomputable def impl_isLinear.bd : Code := bodyOf Go.Proofs.Try.f111

noncomputable def impl_isLinear.fin {ρ : Type} (N : Nat) (K : AV → Heap → Option ρ) (g3 : Nat → Int) : XE → St → Option ρ := finK (E22 N) Go.Proofs.Try.f111 [⟨false, .ints .u8 64 g3⟩] K

noncomputable def impl_isLinear.k0 {ρ : Type} (N : Nat) (K : AV → Heap → Option ρ) (g3 : Nat → Int) : XE → St → Option ρ := (blockK impl_isLinear.kp 1 0 (seqK (xcode (E22 N) ents impl_isLinear.kp 1 N (cB (cB impl_isLinear.bd)) 0) (impl_isLinear.fin N K g3)))

theorem impl_isLinear.k0_mix {ρ : Type} (N : Nat) (K : AV → Heap → Option ρ) (g3 : Nat → Int) : mixK (impl_isLinear.fin N K g3 .ret) (impl_isLinear.k0 N K g3) = (impl_isLinear.k0 N K g3) := by
  funext e s; cases e <;> rfl

noncomputable def impl_isLinear.st0 (p0 : Int) (n1 : Int) (size2 : Int) (g3 : Nat → Int) (x4 : Int) : St := ⟨sl 34 [(0, .int .i64 (p0)), (1, .int .i64 (n1)), (2, .int .i64 (size2)), (11, .sptr [(0, 64)]), (12, .int .i64 (x4))], [⟨false, .ints .u8 64 g3⟩]⟩

noncomputable def impl_isLinear.sx0_0 (g3 : Nat → Int) : St := ⟨sl 34 [], [⟨false, .ints .u8 64 g3⟩]⟩

theorem impl_isLinear.b0_gen {ρ : Type} (N : Nat) (K : AV → Heap → Option ρ) (L0 : St → Option ρ) (kv : XE → St → Option ρ) (p0 : Int) (n1 : Int) (size2 : Int) (g3 : Nat → Int) (x4 : Int) :
    xcode (E22 N) ents impl_isLinear.kp 1 N (cL (cK (cB (cA (cB impl_isLinear.bd))))) 0 (impl_isLinear.st0 p0 n1 size2 g3 x4) (roundK impl_isLinear.kp 1 0 L0 (mixK (impl_isLinear.fin N K g3 .ret) kv)) = (impl_isLinear.b0 N (fun d0 => K (.bool (d0)) [⟨false, .ints .u8 64 g3⟩]) (fun x4 => L0 (impl_isLinear.st0 p0 n1 size2 g3 x4)) (kv (.exit 0) (impl_isLinear.sx0_0 g3)) p0 n1 size2 g3 x4) := by kernel_rfl

theorem impl_isLinear.b0_eq {ρ : Type} (N : Nat) (K : AV → Heap → Option ρ) (L0 : St → Option ρ) (p0 : Int) (n1 : Int) (size2 : Int) (g3 : Nat → Int) (x4 : Int) :
    xcode (E22 N) ents impl_isLinear.kp 1 N (cL (cK (cB (cA (cB impl_isLinear.bd))))) 0 (impl_isLinear.st0 p0 n1 size2 g3 x4) (roundK impl_isLinear.kp 1 0 L0 (impl_isLinear.k0 N K g3)) = (impl_isLinear.b0 N (fun d0 => K (.bool (d0)) [⟨false, .ints .u8 64 g3⟩]) (fun x4 => L0 (impl_isLinear.st0 p0 n1 size2 g3 x4)) ((impl_isLinear.k0 N K g3) (.exit 0) (impl_isLinear.sx0_0 g3)) p0 n1 size2 g3 x4) := by
  have h := impl_isLinear.b0_gen N K L0 (impl_isLinear.k0 N K g3) p0 n1 size2 g3 x4
  rw [impl_isLinear.k0_mix] at h
  exact h

theorem impl_isLinear.a0_0_eq {ρ : Type} (N : Nat) (K : AV → Heap → Option ρ) (g3 : Nat → Int) :
    (impl_isLinear.k0 N K g3) (.exit 0) (impl_isLinear.sx0_0 g3) = (impl_isLinear.a0_0 N (fun d0 => K (.bool (d0)) [⟨false, .ints .u8 64 g3⟩])) := by kernel_rfl

theorem impl_isLinear.l0_eq {ρ : Type} (N : Nat) (K : AV → Heap → Option ρ) (p0 : Int) (n1 : Int) (size2 : Int) (g3 : Nat → Int) :
    ∀ (m : Nat) (x4 : Int), xloop (xcode (E22 N) ents impl_isLinear.kp 1 N (cL (cK (cB (cA (cB impl_isLinear.bd))))) 0) impl_isLinear.kp 1 0 m (impl_isLinear.st0 p0 n1 size2 g3 x4) (impl_isLinear.k0 N K g3) = (impl_isLinear.l0 N (fun d0 => K (.bool (d0)) [⟨false, .ints .u8 64 g3⟩]) p0 n1 size2 g3 ((impl_isLinear.k0 N K g3) (.exit 0) (impl_isLinear.sx0_0 g3)) m x4) := by
  intro m
  induction m with
  | zero => intros; rfl
  | succ m ih =>
    intro x4
    refine (impl_isLinear.b0_eq N K (fun s => xloop (xcode (E22 N) ents impl_isLinear.kp 1 N (cL (cK (cB (cA (cB impl_isLinear.bd))))) 0) impl_isLinear.kp 1 0 m s (impl_isLinear.k0 N K g3)) p0 n1 size2 g3 x4).trans ?_
    simp only [ih]
    kernel_rfl

theorem impl_isLinear.s_eq {ρ : Type} (N : Nat) (K : AV → Heap → Option ρ) (p0 : Int) (n1 : Int) (size2 : Int) (g3 : Nat → Int) :
    xbody (E22 N) ents impl_isLinear.kp N Go.Proofs.Try.f111 impl_isLinear.bd [.int .i64 (p0), .int .i64 (n1), .int .i64 (size2), .sptr [(0, 64)]] [⟨false, .ints .u8 64 g3⟩] K = (impl_isLinear.s N (fun d0 => K (.bool (d0)) [⟨false, .ints .u8 64 g3⟩]) (fun x4 => xloop (xcode (E22 N) ents impl_isLinear.kp 1 N (cL (cK (cB (cA (cB impl_isLinear.bd))))) 0) impl_isLinear.kp 1 0 N (impl_isLinear.st0 p0 n1 size2 g3 x4) (impl_isLinear.k0 N K g3))) := by kernel_rfl

theorem impl_isLinear.eq {ρ : Type} (N : Nat) (K : AV → Heap → Option ρ) (p0 : Int) (n1 : Int) (size2 : Int) (g3 : Nat → Int) :
    xbody (E22 N) ents impl_isLinear.kp N Go.Proofs.Try.f111 impl_isLinear.bd [.int .i64 (p0), .int .i64 (n1), .int .i64 (size2), .sptr [(0, 64)]] [⟨false, .ints .u8 64 g3⟩] K = (impl_isLinear N (fun d0 => K (.bool (d0)) [⟨false, .ints .u8 64 g3⟩]) p0 n1 size2 g3) := by
  refine (impl_isLinear.s_eq N K p0 n1 size2 g3).trans ?_
  simp only [impl_isLinear.l0_eq, impl_isLinear.a0_0_eq]
  kernel_rfl

noncomputable def impl_isLinear.en (N : Nat) (ρ : Type) : List AV → Heap → (AV → Heap → Option ρ) → Option ρ
  | [.int .i64 (p0), .int .i64 (n1), .int .i64 (size2), .sptr [(0, 64)]], [⟨false, .ints .u8 64 g3⟩], K => (impl_isLinear N (fun d0 => K (.bool (d0)) [⟨false, .ints .u8 64 g3⟩]) p0 n1 size2 g3)
  | _, _, _ => none

theorem impl_isLinear.en_ok (N : Nat) (hE : EnvOk (E22 N) ents) (ρ : Type) (args : List AV) (sh : Heap) (K : AV → Heap → Option ρ) (r : ρ) (h : impl_isLinear.en N ρ args sh K = some r) : ∃ v sh', K v sh' = some r ∧ FnOk (E22 N).P 111 args sh v sh' := by
  unfold impl_isLinear.en at h
  split at h
  · exact fn_ok hE (kp := impl_isLinear.kp) (N := N) Go.Proofs.Try.func111 (c := impl_isLinear.bd) (by kernel_rfl) ((impl_isLinear.eq N _ _ _ _ _).trans h)
  · cases h

noncomputable def E23 (N : Nat) : Env := (E22 N).add 111 (impl_isLinear.en N)

theorem E23_ok (N : Nat) : EnvOk (E23 N) ents := Env.add_ok (E22_ok N) (impl_isLinear.en_ok N (E22_ok N))

noncomputable def impl_isTable.kp : Keeps := ⟨[(0, [0, 1, 2, 8], 1)], [(0, [], 1)]⟩

noncomputable def impl_isTable.bd : Code := bodyOf Go.Proofs.Try.f96

noncomputable def impl_isTable.fin {ρ : Type} (N : Nat) (K : AV → Heap → Option ρ) (g2 : Nat → Int) : XE → St → Option ρ := finK (E23 N) Go.Proofs.Try.f96 [⟨false, .ints .u8 512 g2⟩] K

noncomputable def impl_isTable.k0 {ρ : Type} (N : Nat) (K : AV → Heap → Option ρ) (g2 : Nat → Int) : XE → St → Option ρ := (blockK impl_isTable.kp 1 0 (seqK (xcode (E23 N) ents impl_isTable.kp 1 N (cB (cB impl_isTable.bd)) 0) (impl_isTable.fin N K g2)))

theorem impl_isTable.k0_mix {ρ : Type} (N : Nat) (K : AV → Heap → Option ρ) (g2 : Nat → Int) : mixK (impl_isTable.fin N K g2 .ret) (impl_isTable.k0 N K g2) = (impl_isTable.k0 N K g2) := by
  funext e s; cases e <;> rfl

noncomputable def impl_isTable.st0 (p0 : Int) (n1 : Int) (g2 : Nat → Int) (x3 : Int) : St := ⟨sl 35 [(0, .int .i64 (p0)), (1, .int .i64 (n1)), (2, .sptr [(0, 512)]), (8, .int .i64 (x3))], [⟨false, .ints .u8 512 g2⟩]⟩

noncomputable def impl_isTable.sx0_0 (g2 : Nat → Int) : St := ⟨sl 35 [], [⟨false, .ints .u8 512 g2⟩]⟩

theorem impl_isTable.b0_gen {ρ : Type} (N : Nat) (K : AV → Heap → Option ρ) (L0 : St → Option ρ) (kv : XE → St → Option ρ) (p0 : Int) (n1 : Int) (g2 : Nat → Int) (x3 : Int) :
    xcode (E23 N) ents impl_isTable.kp 1 N (cL (cK (cB (cA (cB impl_isTable.bd))))) 0 (impl_isTable.st0 p0 n1 g2 x3) (roundK impl_isTable.kp 1 0 L0 (mixK (impl_isTable.fin N K g2 .ret) kv)) = (impl_isTable.b0 N (fun d0 => K (.bool (d0)) [⟨false, .ints .u8 512 g2⟩]) (fun x3 => L0 (impl_isTable.st0 p0 n1 g2 x3)) (kv (.exit 0) (impl_isTable.sx0_0 g2)) p0 n1 g2 x3) := by kernel_rfl

theorem impl_isTable.b0_eq {ρ : Type} (N : Nat) (K : AV → Heap → Option ρ) (L0 : St → Option ρ) (p0 : Int) (n1 : Int) (g2 : Nat → Int) (x3 : Int) :
    xcode (E23 N) ents impl_isTable.kp 1 N (cL (cK (cB (cA (cB impl_isTable.bd))))) 0 (impl_isTable.st0 p0 n1 g2 x3) (roundK impl_isTable.kp 1 0 L0 (impl_isTable.k0 N K g2)) = (impl_isTable.b0 N (fun d0 => K (.bool (d0)) [⟨false, .ints .u8 512 g2⟩]) (fun x3 => L0 (impl_isTable.st0 p0 n1 g2 x3)) ((impl_isTable.k0 N K g2) (.exit 0) (impl_isTable.sx0_0 g2)) p0 n1 g2 x3) := by
  have h := impl_isTable.b0_gen N K L0 (impl_isTable.k0 N K g2) p0 n1 g2 x3
  rw [impl_isTable.k0_mix] at h
  exact h

theorem impl_isTable.a0_0_eq {ρ : Type} (N : Nat) (K : AV → Heap → Option ρ) (g2 : Nat → Int) :
    (impl_isTable.k0 N K g2) (.exit 0) (impl_isTable.sx0_0 g2) = (impl_isTable.a0_0 N (fun d0 => K (.bool (d0)) [⟨false, .ints .u8 512 g2⟩])) := by kernel_rfl

theorem impl_isTable.l0_eq {ρ : Type} (N : Nat) (K : AV → Heap → Option ρ) (p0 : Int) (n1 : Int) (g2 : Nat → Int) :
    ∀ (m : Nat) (x3 : Int), xloop (xcode (E23 N) ents impl_isTable.kp 1 N (cL (cK (cB (cA (cB impl_isTable.bd))))) 0) impl_isTable.kp 1 0 m (impl_isTable.st0 p0 n1 g2 x3) (impl_isTable.k0 N K g2) = (impl_isTable.l0 N (fun d0 => K (.bool (d0)) [⟨false, .ints .u8 512 g2⟩]) p0 n1 g2 ((impl_isTable.k0 N K g2) (.exit 0) (impl_isTable.sx0_0 g2)) m x3) := by
  intro m
  induction m with
  | zero => intros; rfl
  | succ m ih =>
    intro x3
    refine (impl_isTable.b0_eq N K (fun s => xloop (xcode (E23 N) ents impl_isTable.kp 1 N (cL (cK (cB (cA (cB impl_isTable.bd))))) 0) impl_isTable.kp 1 0 m s (impl_isTable.k0 N K g2)) p0 n1 g2 x3).trans ?_
    simp only [ih]
    kernel_rfl

theorem impl_isTable.s_eq {ρ : Type} (N : Nat) (K : AV → Heap → Option ρ) (p0 : Int) (n1 : Int) (g2 : Nat → Int) :
    xbody (E23 N) ents impl_isTable.kp N Go.Proofs.Try.f96 impl_isTable.bd [.int .i64 (p0), .int .i64 (n1), .sptr [(0, 512)]] [⟨false, .ints .u8 512 g2⟩] K = (impl_isTable.s N (fun d0 => K (.bool (d0)) [⟨false, .ints .u8 512 g2⟩]) (fun x3 => xloop (xcode (E23 N) ents impl_isTable.kp 1 N (cL (cK (cB (cA (cB impl_isTable.bd))))) 0) impl_isTable.kp 1 0 N (impl_isTable.st0 p0 n1 g2 x3) (impl_isTable.k0 N K g2))) := by kernel_rfl

theorem impl_isTable.eq {ρ : Type} (N : Nat) (K : AV → Heap → Option ρ) (p0 : Int) (n1 : Int) (g2 : Nat → Int) :
    xbody (E23 N) ents impl_isTable.kp N Go.Proofs.Try.f96 impl_isTable.bd [.int .i64 (p0), .int .i64 (n1), .sptr [(0, 512)]] [⟨false, .ints .u8 512 g2⟩] K = (impl_isTable N (fun d0 => K (.bool (d0)) [⟨false, .ints .u8 512 g2⟩]) p0 n1 g2) := by
  refine (impl_isTable.s_eq N K p0 n1 g2).trans ?_
  simp only [impl_isTable.l0_eq, impl_isTable.a0_0_eq]
  kernel_rfl

noncomputable def impl_isTable.en (N : Nat) (ρ : Type) : List AV → Heap → (AV → Heap → Option ρ) → Option ρ
  | [.int .i64 (p0), .int .i64 (n1), .sptr [(0, 512)]], [⟨false, .ints .u8 512 g2⟩], K => (impl_isTable N (fun d0 => K (.bool (d0)) [⟨false, .ints .u8 512 g2⟩]) p0 n1 g2)
  | _, _, _ => none

theorem impl_isTable.en_ok (N : Nat) (hE : EnvOk (E23 N) ents) (ρ : Type) (args : List AV) (sh : Heap) (K : AV → Heap → Option ρ) (r : ρ) (h : impl_isTable.en N ρ args sh K = some r) : ∃ v sh', K v sh' = some r ∧ FnOk (E23 N).P 96 args sh v sh' := by
  unfold impl_isTable.en at h
  split at h
  · exact fn_ok hE (kp := impl_isTable.kp) (N := N) Go.Proofs.Try.func96 (c := impl_isTable.bd) (by kernel_rfl) ((impl_isTable.eq N _ _ _ _).trans h)
  · cases h

noncomputable def E24 (N : Nat) : Env := (E23 N).add 96 (impl_isTable.en N)

theorem E24_ok (N : Nat) : EnvOk (E24 N) ents := Env.add_ok (E23_ok N) (impl_isTable.en_ok N (E23_ok N))

noncomputable def impl_Coalgebra_isShaped.kp : Keeps := ⟨[], []⟩

noncomputable def impl_Coalgebra_isShaped.bd : Code := bodyOf Go.Proofs.Try.f55

noncomputable def impl_Coalgebra_isShaped.fin {ρ : Type} (N : Nat) (K : AV → Heap → Option ρ) (g0 : Nat → Int) (g1 : Nat → Int) : XE → St → Option ρ := finK (E24 N) Go.Proofs.Try.f55 [⟨false, .ints .i64 2 g0⟩, ⟨false, .ints .u8 520 g1⟩] K

theorem impl_Coalgebra_isShaped.eq {ρ : Type} (N : Nat) (K : AV → Heap → Option ρ) (g0 : Nat → Int) (g1 : Nat → Int) :
    xbody (E24 N) ents impl_Coalgebra_isShaped.kp N Go.Proofs.Try.f55 impl_Coalgebra_isShaped.bd [.sptr [(0, 2), (1, 520)]] [⟨false, .ints .i64 2 g0⟩, ⟨false, .ints .u8 520 g1⟩] K = (impl_Coalgebra_isShaped N (fun d0 => K (.bool (d0)) [⟨false, .ints .i64 2 g0⟩, ⟨false, .ints .u8 520 g1⟩]) g0 g1) := by kernel_rfl

noncomputable def impl_Coalgebra_isShaped.en (N : Nat) (ρ : Type) : List AV → Heap → (AV → Heap → Option ρ) → Option ρ
  | [.sptr [(0, 2), (1, 520)]], [⟨false, .ints .i64 2 g0⟩, ⟨false, .ints .u8 520 g1⟩], K => (impl_Coalgebra_isShaped N (fun d0 => K (.bool (d0)) [⟨false, .ints .i64 2 g0⟩, ⟨false, .ints .u8 520 g1⟩]) g0 g1)
  | _, _, _ => none

theorem impl_Coalgebra_isShaped.en_ok (N : Nat) (hE : EnvOk (E24 N) ents) (ρ : Type) (args : List AV) (sh : Heap) (K : AV → Heap → Option ρ) (r : ρ) (h : impl_Coalgebra_isShaped.en N ρ args sh K = some r) : ∃ v sh', K v sh' = some r ∧ FnOk (E24 N).P 55 args sh v sh' := by
  unfold impl_Coalgebra_isShaped.en at h
  split at h
  · exact fn_ok hE (kp := impl_Coalgebra_isShaped.kp) (N := N) Go.Proofs.Try.func55 (c := impl_Coalgebra_isShaped.bd) (by kernel_rfl) ((impl_Coalgebra_isShaped.eq N _ _ _).trans h)
  · cases h

noncomputable def E25 (N : Nat) : Env := (E24 N).add 55 (impl_Coalgebra_isShaped.en N)

theorem E25_ok (N : Nat) : EnvOk (E25 N) ents := Env.add_ok (E24_ok N) (impl_Coalgebra_isShaped.en_ok N (E24_ok N))

noncomputable def impl_Coalgebra_field.kp : Keeps := ⟨[], []⟩

noncomputable def impl_Coalgebra_field.bd : Code := bodyOf Go.Proofs.Try.f64

noncomputable def impl_Coalgebra_field.fin {ρ : Type} (N : Nat) (K : AV → Heap → Option ρ) (g0 : Nat → Int) (g1 : Nat → Int) : XE → St → Option ρ := finK (E25 N) Go.Proofs.Try.f64 [⟨false, .ints .i64 2 g0⟩, ⟨false, .ints .u8 520 g1⟩] K

theorem impl_Coalgebra_field.eq {ρ : Type} (N : Nat) (K : AV → Heap → Option ρ) (g0 : Nat → Int) (g1 : Nat → Int) :
    xbody (E25 N) ents impl_Coalgebra_field.kp N Go.Proofs.Try.f64 impl_Coalgebra_field.bd [.sptr [(0, 2), (1, 520)]] [⟨false, .ints .i64 2 g0⟩, ⟨false, .ints .u8 520 g1⟩] K = (impl_Coalgebra_field N (fun d0 => K (.agg [⟨.i64, 2, d0⟩]) [⟨false, .ints .i64 2 g0⟩, ⟨false, .ints .u8 520 g1⟩]) g0 g1) := by kernel_rfl

noncomputable def impl_Coalgebra_field.en (N : Nat) (ρ : Type) : List AV → Heap → (AV → Heap → Option ρ) → Option ρ
  | [.sptr [(0, 2), (1, 520)]], [⟨false, .ints .i64 2 g0⟩, ⟨false, .ints .u8 520 g1⟩], K => (impl_Coalgebra_field N (fun d0 => K (.agg [⟨.i64, 2, d0⟩]) [⟨false, .ints .i64 2 g0⟩, ⟨false, .ints .u8 520 g1⟩]) g0 g1)
  | _, _, _ => none

theorem impl_Coalgebra_field.en_ok (N : Nat) (hE : EnvOk (E25 N) ents) (ρ : Type) (args : List AV) (sh : Heap) (K : AV → Heap → Option ρ) (r : ρ) (h : impl_Coalgebra_field.en N ρ args sh K = some r) : ∃ v sh', K v sh' = some r ∧ FnOk (E25 N).P 64 args sh v sh' := by
  unfold impl_Coalgebra_field.en at h
  split at h
  · exact fn_ok hE (kp := impl_Coalgebra_field.kp) (N := N) Go.Proofs.Try.func64 (c := impl_Coalgebra_field.bd) (by kernel_rfl) ((impl_Coalgebra_field.eq N _ _ _).trans h)
  · cases h

noncomputable def E26 (N : Nat) : Env := (E25 N).add 64 (impl_Coalgebra_field.en N)

theorem E26_ok (N : Nat) : EnvOk (E26 N) ents := Env.add_ok (E25_ok N) (impl_Coalgebra_field.en_ok N (E25_ok N))

noncomputable def impl_field_mod.kp : Keeps := ⟨[], []⟩

noncomputable def impl_field_mod.bd : Code := bodyOf Go.Proofs.Try.f128

noncomputable def impl_field_mod.fin {ρ : Type} (N : Nat) (K : AV → Heap → Option ρ) : XE → St → Option ρ := finK (E26 N) Go.Proofs.Try.f128 [] K

theorem impl_field_mod.eq {ρ : Type} (N : Nat) (K : AV → Heap → Option ρ) (f0 : Nat → Int) (x1 : Int) :
    xbody (E26 N) ents impl_field_mod.kp N Go.Proofs.Try.f128 impl_field_mod.bd [.agg [⟨.i64, 2, f0⟩], .int .i64 (x1)] [] K = (impl_field_mod N (fun d0 => K (.int .u8 (d0)) []) f0 x1) := by kernel_rfl

noncomputable def impl_field_mod.en (N : Nat) (ρ : Type) : List AV → Heap → (AV → Heap → Option ρ) → Option ρ
  | [.agg [⟨.i64, 2, f0⟩], .int .i64 (x1)], [], K => (impl_field_mod N (fun d0 => K (.int .u8 (d0)) []) f0 x1)
  | _, _, _ => none

theorem impl_field_mod.en_ok (N : Nat) (hE : EnvOk (E26 N) ents) (ρ : Type) (args : List AV) (sh : Heap) (K : AV → Heap → Option ρ) (r : ρ) (h : impl_field_mod.en N ρ args sh K = some r) : ∃ v sh', K v sh' = some r ∧ FnOk (E26 N).P 128 args sh v sh' := by
  unfold impl_field_mod.en at h
  split at h
  · exact fn_ok hE (kp := impl_field_mod.kp) (N := N) Go.Proofs.Try.func128 (c := impl_field_mod.bd) (by kernel_rfl) ((impl_field_mod.eq N _ _ _).trans h)
  · cases h

noncomputable def E27 (N : Nat) : Env := (E26 N).add 128 (impl_field_mod.en N)

theorem E27_ok (N : Nat) : EnvOk (E27 N) ents := Env.add_ok (E26_ok N) (impl_field_mod.en_ok N (E26_ok N))
end Go.Proofs.Ythecjjnieojjoaa.H
