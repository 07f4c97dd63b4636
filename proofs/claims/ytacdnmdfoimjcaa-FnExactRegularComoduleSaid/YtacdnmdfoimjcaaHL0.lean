/- The program computes these functions. -/
import Derived.Test.YtacdnmdfoimjcaaHP0
import Derived.Test.YtacdnmdfoimjcaaChecked
import Derived.KernelRfl
namespace Go.Proofs.Ytacdnmdfoimjcaa.H
set_option linter.unusedVariables false
set_option linter.unusedSimpArgs false
open Go Go.RowKit Go.Proofs.Ytacdnmdfoimjcaa.Hx
set_option linter.unusedVariables false
set_option maxRecDepth 100000
noncomputable def lays : List Lay := [.other, .func, .int .i64, .int .i64, .bool, .int .u8, .int .u8, .other, .other, .str, .str, .str, .int .u64, .other, .other, .ptr, .ptr, .ptr, .other, .other, .other, .int .i32, .arr 8 5 1 .u8, .arr 8 22 8 .u8, .arr 8 23 64 .u8, .struct [(0, 1, false), (1, 1, false), (2, 8, true), (10, 512, true), (522, 8, true), (530, 512, true), (1042, 64, true)] [(.i64, 2), (.u8, 1104)], .struct [(0, 1, false), (1, 1, false), (2, 8, true), (10, 512, true), (522, 8, true), (530, 512, true), (1042, 64, true)] [(.i64, 2), (.u8, 1104)], .func, .arr 8 5 1 .u8, .arr 8 28 8 .u8, .arr 8 28 8 .u8, .arr 8 30 64 .u8, .arr 8 30 64 .u8, .struct [(0, 1, false), (1, 1, false), (2, 8, true), (10, 512, true), (522, 8, true), (530, 512, true), (1042, 64, true)] [(.i64, 2), (.u8, 1104)], .struct [(0, 1, false), (1, 1, false), (2, 8, true), (10, 512, true), (522, 8, true), (530, 512, true), (1042, 64, true)] [(.i64, 2), (.u8, 1104)], .func, .func, .other, .func, .func, .func, .func, .other, .func, .other, .func, .func, .other, .func, .func, .struct [(0, 1, false), (1, 512, true)] [(.i64, 1), (.u8, 512)], .struct [(0, 1, false), (1, 512, true)] [(.i64, 1), (.u8, 512)], .other, .func, .func, .func, .func, .func, .func, .func, .func, .func, .func, .func, .func, .struct [(0, 1, false), (1, 1, false), (2, 8, true), (10, 512, true)] [(.i64, 2), (.u8, 520)], .struct [(0, 1, false), (1, 1, false), (2, 8, true), (10, 512, true)] [(.i64, 2), (.u8, 520)], .func, .func, .func, .struct [(0, 1, false), (1, 1, false)] [(.i64, 2)], .struct [(0, 1, false), (1, 1, false)] [(.i64, 2)], .func, .func, .func, .func, .func, .func, .func, .func, .func, .ptr, .ptr, .func, .ptr, .func, .func, .ptr, .func, .func, .struct [(0, 1, false), (1, 1, false), (2, 8, true), (10, 512, true)] [(.i64, 2), (.u8, 520)], .struct [(0, 1, false), (1, 1, false), (2, 8, true), (10, 512, true)] [(.i64, 2), (.u8, 520)], .func, .slice 57 1 8, .func, .func, .func, .func, .slice 28 8 8, .func, .func, .func, .func, .func, .ptr, .func, .func, .ptr, .slice 2 1 8, .func, .func, .func, .func, .func, .func, .func, .func, .func, .func, .func, .func, .func, .func, .func, .func, .other, .func, .func, .func, .other, .func, .func, .other, .other, .other, .other, .other, .func, .int .u32, .int .u8, .int .u8, .func, .ptr, .int .i32, .int .i32, .other, .other, .func, .func, .other]

noncomputable def wrs : List (FuncId × List Bool) := [(78, [false, true]), (103, [false, true]), (104, [false, false, false, false, true, true, true]), (105, [false, false, false, false, false, false, true]), (106, [false, false, false, false, false, true])]

noncomputable def ents : List FuncId := [3, 4, 5, 6, 7, 8, 9, 10, 11, 12, 13, 14, 15, 16, 17, 18, 19, 20, 21, 22, 23, 24, 25, 26, 27, 28, 29, 30, 31, 32, 33, 34, 35, 36, 37, 38, 39, 40, 41, 42, 43, 44, 45, 46, 47, 48, 49, 50, 51, 52, 53, 54, 55, 56, 57, 58, 59, 60, 61, 62, 63, 64, 65, 66, 67, 68, 69, 70, 71, 72, 73, 74, 75, 76, 77, 78, 79, 80, 81, 82, 83, 84, 85, 86, 87, 88, 89, 90, 91, 92, 93, 94, 95, 96, 97, 98, 99, 100, 101, 102, 103, 104, 105, 106, 107, 108, 109, 110, 111, 112, 113, 114, 115]

noncomputable def E0 (N : Nat) : Env := env0 Go.Proofs.Try.prog lays wrs

theorem E0_ok (N : Nat) : EnvOk (E0 N) ents := env0_ok (by kernel_rfl) (by kernel_rfl) (by kernel_rfl)

noncomputable def laws_toVector.kp : Keeps := ⟨[(0, [1, 2, 3, 4], 3)], [(0, [2, 3], 3)]⟩

noncomputable def laws_toVector.bd : Code := bodyOf Go.Proofs.Try.f16

noncomputable def laws_toVector.fin {ρ : Type} (N : Nat) (K : AV → Heap → Option ρ) : XE → St → Option ρ := finK (E0 N) Go.Proofs.Try.f16 [] K

noncomputable def laws_toVector.k0 {ρ : Type} (N : Nat) (K : AV → Heap → Option ρ) : XE → St → Option ρ := (blockK laws_toVector.kp 0 0 (seqK (xcode (E0 N) ents laws_toVector.kp 0 N (cB (cB (cB laws_toVector.bd))) 0) (laws_toVector.fin N K)))

theorem laws_toVector.k0_mix {ρ : Type} (N : Nat) (K : AV → Heap → Option ρ) : mixK (laws_toVector.fin N K .ret) (laws_toVector.k0 N K) = (laws_toVector.k0 N K) := by
  funext e s; cases e <;> rfl

noncomputable def laws_toVector.st0 (a0 : Nat → Int) (i1 : Int) (g2 : Nat → Int) : St := ⟨sl 15 [(1, .sptr [(0, 8)]), (2, .sptr [(1, 8)]), (3, .sptr [(2, 8)]), (4, .int .i64 (i1))], [⟨true, .ints .u8 8 a0⟩, ⟨true, .ints .u8 8 (fun _ => 0)⟩, ⟨true, .ints .u8 8 g2⟩]⟩

noncomputable def laws_toVector.sx0_0 (a0 : Nat → Int) (o3 : Nat → Int) : St := ⟨sl 15 [(2, .sptr [(1, 8)]), (3, .sptr [(2, 8)])], [⟨true, .ints .u8 8 a0⟩, ⟨true, .ints .u8 8 (fun _ => 0)⟩, ⟨true, .ints .u8 8 o3⟩]⟩

theorem laws_toVector.b0_gen {ρ : Type} (N : Nat) (K : AV → Heap → Option ρ) (L0 : St → Option ρ) (kv : XE → St → Option ρ) (a0 : Nat → Int) (i1 : Int) (g2 : Nat → Int) :
    xcode (E0 N) ents laws_toVector.kp 0 N (cL (cK (cB (cA (cB (cB laws_toVector.bd)))))) 0 (laws_toVector.st0 a0 i1 g2) (roundK laws_toVector.kp 0 0 L0 (mixK (laws_toVector.fin N K .ret) kv)) = (laws_toVector.b0 N (fun d0 => K (.agg [⟨.u8, 8, d0⟩]) []) (fun i1 g2 => L0 (laws_toVector.st0 a0 i1 g2)) (fun o3 => kv (.exit 0) (laws_toVector.sx0_0 a0 o3)) a0 i1 g2) := by kernel_rfl

theorem laws_toVector.b0_eq {ρ : Type} (N : Nat) (K : AV → Heap → Option ρ) (L0 : St → Option ρ) (a0 : Nat → Int) (i1 : Int) (g2 : Nat → Int) :
    xcode (E0 N) ents laws_toVector.kp 0 N (cL (cK (cB (cA (cB (cB laws_toVector.bd)))))) 0 (laws_toVector.st0 a0 i1 g2) (roundK laws_toVector.kp 0 0 L0 (laws_toVector.k0 N K)) = (laws_toVector.b0 N (fun d0 => K (.agg [⟨.u8, 8, d0⟩]) []) (fun i1 g2 => L0 (laws_toVector.st0 a0 i1 g2)) (fun o3 => (laws_toVector.k0 N K) (.exit 0) (laws_toVector.sx0_0 a0 o3)) a0 i1 g2) := by
  have h := laws_toVector.b0_gen N K L0 (laws_toVector.k0 N K) a0 i1 g2
  rw [laws_toVector.k0_mix] at h
  exact h

theorem laws_toVector.a0_0_eq {ρ : Type} (N : Nat) (K : AV → Heap → Option ρ) (a0 : Nat → Int) (o3 : Nat → Int) :
    (laws_toVector.k0 N K) (.exit 0) (laws_toVector.sx0_0 a0 o3) = (laws_toVector.a0_0 N (fun d0 => K (.agg [⟨.u8, 8, d0⟩]) []) o3) := by kernel_rfl

theorem laws_toVector.l0_eq {ρ : Type} (N : Nat) (K : AV → Heap → Option ρ) (a0 : Nat → Int) :
    ∀ (m : Nat) (i1 : Int) (g2 : Nat → Int), xloop (xcode (E0 N) ents laws_toVector.kp 0 N (cL (cK (cB (cA (cB (cB laws_toVector.bd)))))) 0) laws_toVector.kp 0 0 m (laws_toVector.st0 a0 i1 g2) (laws_toVector.k0 N K) = (laws_toVector.l0 N (fun d0 => K (.agg [⟨.u8, 8, d0⟩]) []) a0 (fun o3 => (laws_toVector.k0 N K) (.exit 0) (laws_toVector.sx0_0 a0 o3)) m i1 g2) := by
  intro m
  induction m with
  | zero => intros; rfl
  | succ m ih =>
    intro i1 g2
    refine (laws_toVector.b0_eq N K (fun s => xloop (xcode (E0 N) ents laws_toVector.kp 0 N (cL (cK (cB (cA (cB (cB laws_toVector.bd)))))) 0) laws_toVector.kp 0 0 m s (laws_toVector.k0 N K)) a0 i1 g2).trans ?_
    simp only [ih]
    kernel_rfl

theorem laws_toVector.s_eq {ρ : Type} (N : Nat) (K : AV → Heap → Option ρ) (a0 : Nat → Int) :
    xbody (E0 N) ents laws_toVector.kp N Go.Proofs.Try.f16 laws_toVector.bd [.agg [⟨.u8, 8, a0⟩]] [] K = (laws_toVector.s N (fun d0 => K (.agg [⟨.u8, 8, d0⟩]) []) (fun i1 g2 => xloop (xcode (E0 N) ents laws_toVector.kp 0 N (cL (cK (cB (cA (cB (cB laws_toVector.bd)))))) 0) laws_toVector.kp 0 0 N (laws_toVector.st0 a0 i1 g2) (laws_toVector.k0 N K))) := by kernel_rfl

theorem laws_toVector.eq {ρ : Type} (N : Nat) (K : AV → Heap → Option ρ) (a0 : Nat → Int) :
    xbody (E0 N) ents laws_toVector.kp N Go.Proofs.Try.f16 laws_toVector.bd [.agg [⟨.u8, 8, a0⟩]] [] K = (laws_toVector N (fun d0 => K (.agg [⟨.u8, 8, d0⟩]) []) a0) := by
  refine (laws_toVector.s_eq N K a0).trans ?_
  simp only [laws_toVector.l0_eq, laws_toVector.a0_0_eq]
  kernel_rfl

noncomputable def laws_toVector.en (N : Nat) (ρ : Type) : List AV → Heap → (AV → Heap → Option ρ) → Option ρ
  | [.agg [⟨.u8, 8, a0⟩]], [], K => (laws_toVector N (fun d0 => K (.agg [⟨.u8, 8, d0⟩]) []) a0)
  | _, _, _ => none

theorem laws_toVector.en_ok (N : Nat) (hE : EnvOk (E0 N) ents) (ρ : Type) (args : List AV) (sh : Heap) (K : AV → Heap → Option ρ) (r : ρ) (h : laws_toVector.en N ρ args sh K = some r) : ∃ v sh', K v sh' = some r ∧ FnOk (E0 N).P 16 args sh v sh' := by
  unfold laws_toVector.en at h
  split at h
  · exact fn_ok hE (kp := laws_toVector.kp) (N := N) Go.Proofs.Try.func16 (c := laws_toVector.bd) (by kernel_rfl) ((laws_toVector.eq N _ _).trans h)
  · cases h

noncomputable def E1 (N : Nat) : Env := (E0 N).add 16 (laws_toVector.en N)

theorem E1_ok (N : Nat) : EnvOk (E1 N) ents := Env.add_ok (E0_ok N) (laws_toVector.en_ok N (E0_ok N))

noncomputable def laws_toLinear.kp : Keeps := ⟨[(0, [1, 2, 3, 4], 3)], [(0, [2, 3], 3)]⟩

noncomputable def laws_toLinear.bd : Code := bodyOf Go.Proofs.Try.f31

noncomputable def laws_toLinear.fin {ρ : Type} (N : Nat) (K : AV → Heap → Option ρ) : XE → St → Option ρ := finK (E1 N) Go.Proofs.Try.f31 [] K

noncomputable def laws_toLinear.k0 {ρ : Type} (N : Nat) (K : AV → Heap → Option ρ) : XE → St → Option ρ := (blockK laws_toLinear.kp 0 0 (seqK (xcode (E1 N) ents laws_toLinear.kp 0 N (cB (cB (cB laws_toLinear.bd))) 0) (laws_toLinear.fin N K)))

theorem laws_toLinear.k0_mix {ρ : Type} (N : Nat) (K : AV → Heap → Option ρ) : mixK (laws_toLinear.fin N K .ret) (laws_toLinear.k0 N K) = (laws_toLinear.k0 N K) := by
  funext e s; cases e <;> rfl

noncomputable def laws_toLinear.st0 (a0 : Nat → Int) (i1 : Int) (g2 : Nat → Int) : St := ⟨sl 16 [(1, .sptr [(0, 64)]), (2, .sptr [(1, 64)]), (3, .sptr [(2, 64)]), (4, .int .i64 (i1))], [⟨true, .ints .u8 64 a0⟩, ⟨true, .ints .u8 64 (fun _ => 0)⟩, ⟨true, .ints .u8 64 g2⟩]⟩

noncomputable def laws_toLinear.sx0_0 (a0 : Nat → Int) (o4 : Nat → Int) : St := ⟨sl 16 [(2, .sptr [(1, 64)]), (3, .sptr [(2, 64)])], [⟨true, .ints .u8 64 a0⟩, ⟨true, .ints .u8 64 (fun _ => 0)⟩, ⟨true, .ints .u8 64 o4⟩]⟩

theorem laws_toLinear.b0_gen {ρ : Type} (N : Nat) (K : AV → Heap → Option ρ) (L0 : St → Option ρ) (kv : XE → St → Option ρ) (a0 : Nat → Int) (i1 : Int) (g2 : Nat → Int) :
    xcode (E1 N) ents laws_toLinear.kp 0 N (cL (cK (cB (cA (cB (cB laws_toLinear.bd)))))) 0 (laws_toLinear.st0 a0 i1 g2) (roundK laws_toLinear.kp 0 0 L0 (mixK (laws_toLinear.fin N K .ret) kv)) = (laws_toLinear.b0 N (fun d0 => K (.agg [⟨.u8, 64, d0⟩]) []) (fun i1 g2 => L0 (laws_toLinear.st0 a0 i1 g2)) (fun o4 => kv (.exit 0) (laws_toLinear.sx0_0 a0 o4)) a0 i1 g2) := by kernel_rfl

theorem laws_toLinear.b0_eq {ρ : Type} (N : Nat) (K : AV → Heap → Option ρ) (L0 : St → Option ρ) (a0 : Nat → Int) (i1 : Int) (g2 : Nat → Int) :
    xcode (E1 N) ents laws_toLinear.kp 0 N (cL (cK (cB (cA (cB (cB laws_toLinear.bd)))))) 0 (laws_toLinear.st0 a0 i1 g2) (roundK laws_toLinear.kp 0 0 L0 (laws_toLinear.k0 N K)) = (laws_toLinear.b0 N (fun d0 => K (.agg [⟨.u8, 64, d0⟩]) []) (fun i1 g2 => L0 (laws_toLinear.st0 a0 i1 g2)) (fun o4 => (laws_toLinear.k0 N K) (.exit 0) (laws_toLinear.sx0_0 a0 o4)) a0 i1 g2) := by
  have h := laws_toLinear.b0_gen N K L0 (laws_toLinear.k0 N K) a0 i1 g2
  rw [laws_toLinear.k0_mix] at h
  exact h

theorem laws_toLinear.a0_0_eq {ρ : Type} (N : Nat) (K : AV → Heap → Option ρ) (a0 : Nat → Int) (o4 : Nat → Int) :
    (laws_toLinear.k0 N K) (.exit 0) (laws_toLinear.sx0_0 a0 o4) = (laws_toLinear.a0_0 N (fun d0 => K (.agg [⟨.u8, 64, d0⟩]) []) o4) := by kernel_rfl

theorem laws_toLinear.l0_eq {ρ : Type} (N : Nat) (K : AV → Heap → Option ρ) (a0 : Nat → Int) :
    ∀ (m : Nat) (i1 : Int) (g2 : Nat → Int), xloop (xcode (E1 N) ents laws_toLinear.kp 0 N (cL (cK (cB (cA (cB (cB laws_toLinear.bd)))))) 0) laws_toLinear.kp 0 0 m (laws_toLinear.st0 a0 i1 g2) (laws_toLinear.k0 N K) = (laws_toLinear.l0 N (fun d0 => K (.agg [⟨.u8, 64, d0⟩]) []) a0 (fun o4 => (laws_toLinear.k0 N K) (.exit 0) (laws_toLinear.sx0_0 a0 o4)) m i1 g2) := by
  intro m
  induction m with
  | zero => intros; rfl
  | succ m ih =>
    intro i1 g2
    refine (laws_toLinear.b0_eq N K (fun s => xloop (xcode (E1 N) ents laws_toLinear.kp 0 N (cL (cK (cB (cA (cB (cB laws_toLinear.bd)))))) 0) laws_toLinear.kp 0 0 m s (laws_toLinear.k0 N K)) a0 i1 g2).trans ?_
    simp only [ih]
    kernel_rfl

theorem laws_toLinear.s_eq {ρ : Type} (N : Nat) (K : AV → Heap → Option ρ) (a0 : Nat → Int) :
    xbody (E1 N) ents laws_toLinear.kp N Go.Proofs.Try.f31 laws_toLinear.bd [.agg [⟨.u8, 64, a0⟩]] [] K = (laws_toLinear.s N (fun d0 => K (.agg [⟨.u8, 64, d0⟩]) []) (fun i1 g2 => xloop (xcode (E1 N) ents laws_toLinear.kp 0 N (cL (cK (cB (cA (cB (cB laws_toLinear.bd)))))) 0) laws_toLinear.kp 0 0 N (laws_toLinear.st0 a0 i1 g2) (laws_toLinear.k0 N K))) := by kernel_rfl

theorem laws_toLinear.eq {ρ : Type} (N : Nat) (K : AV → Heap → Option ρ) (a0 : Nat → Int) :
    xbody (E1 N) ents laws_toLinear.kp N Go.Proofs.Try.f31 laws_toLinear.bd [.agg [⟨.u8, 64, a0⟩]] [] K = (laws_toLinear N (fun d0 => K (.agg [⟨.u8, 64, d0⟩]) []) a0) := by
  refine (laws_toLinear.s_eq N K a0).trans ?_
  simp only [laws_toLinear.l0_eq, laws_toLinear.a0_0_eq]
  kernel_rfl

noncomputable def laws_toLinear.en (N : Nat) (ρ : Type) : List AV → Heap → (AV → Heap → Option ρ) → Option ρ
  | [.agg [⟨.u8, 64, a0⟩]], [], K => (laws_toLinear N (fun d0 => K (.agg [⟨.u8, 64, d0⟩]) []) a0)
  | _, _, _ => none

theorem laws_toLinear.en_ok (N : Nat) (hE : EnvOk (E1 N) ents) (ρ : Type) (args : List AV) (sh : Heap) (K : AV → Heap → Option ρ) (r : ρ) (h : laws_toLinear.en N ρ args sh K = some r) : ∃ v sh', K v sh' = some r ∧ FnOk (E1 N).P 31 args sh v sh' := by
  unfold laws_toLinear.en at h
  split at h
  · exact fn_ok hE (kp := laws_toLinear.kp) (N := N) Go.Proofs.Try.func31 (c := laws_toLinear.bd) (by kernel_rfl) ((laws_toLinear.eq N _ _).trans h)
  · cases h

noncomputable def E2 (N : Nat) : Env := (E1 N).add 31 (laws_toLinear.en N)

theorem E2_ok (N : Nat) : EnvOk (E2 N) ents := Env.add_ok (E1_ok N) (laws_toLinear.en_ok N (E1_ok N))

noncomputable def laws_toTable.kp : Keeps := ⟨[(0, [1, 2, 3, 4], 3)], [(0, [2, 3], 3)]⟩

noncomputable def laws_toTable.bd : Code := bodyOf Go.Proofs.Try.f30

noncomputable def laws_toTable.fin {ρ : Type} (N : Nat) (K : AV → Heap → Option ρ) : XE → St → Option ρ := finK (E2 N) Go.Proofs.Try.f30 [] K

noncomputable def laws_toTable.k0 {ρ : Type} (N : Nat) (K : AV → Heap → Option ρ) : XE → St → Option ρ := (blockK laws_toTable.kp 0 0 (seqK (xcode (E2 N) ents laws_toTable.kp 0 N (cB (cB (cB laws_toTable.bd))) 0) (laws_toTable.fin N K)))

theorem laws_toTable.k0_mix {ρ : Type} (N : Nat) (K : AV → Heap → Option ρ) : mixK (laws_toTable.fin N K .ret) (laws_toTable.k0 N K) = (laws_toTable.k0 N K) := by
  funext e s; cases e <;> rfl

noncomputable def laws_toTable.st0 (a0 : Nat → Int) (i1 : Int) (g2 : Nat → Int) : St := ⟨sl 16 [(1, .sptr [(0, 512)]), (2, .sptr [(1, 512)]), (3, .sptr [(2, 512)]), (4, .int .i64 (i1))], [⟨true, .ints .u8 512 a0⟩, ⟨true, .ints .u8 512 (fun _ => 0)⟩, ⟨true, .ints .u8 512 g2⟩]⟩

noncomputable def laws_toTable.sx0_0 (a0 : Nat → Int) (o4 : Nat → Int) : St := ⟨sl 16 [(2, .sptr [(1, 512)]), (3, .sptr [(2, 512)])], [⟨true, .ints .u8 512 a0⟩, ⟨true, .ints .u8 512 (fun _ => 0)⟩, ⟨true, .ints .u8 512 o4⟩]⟩

theorem laws_toTable.b0_gen {ρ : Type} (N : Nat) (K : AV → Heap → Option ρ) (L0 : St → Option ρ) (kv : XE → St → Option ρ) (a0 : Nat → Int) (i1 : Int) (g2 : Nat → Int) :
    xcode (E2 N) ents laws_toTable.kp 0 N (cL (cK (cB (cA (cB (cB laws_toTable.bd)))))) 0 (laws_toTable.st0 a0 i1 g2) (roundK laws_toTable.kp 0 0 L0 (mixK (laws_toTable.fin N K .ret) kv)) = (laws_toTable.b0 N (fun d0 => K (.agg [⟨.u8, 512, d0⟩]) []) (fun i1 g2 => L0 (laws_toTable.st0 a0 i1 g2)) (fun o4 => kv (.exit 0) (laws_toTable.sx0_0 a0 o4)) a0 i1 g2) := by kernel_rfl

theorem laws_toTable.b0_eq {ρ : Type} (N : Nat) (K : AV → Heap → Option ρ) (L0 : St → Option ρ) (a0 : Nat → Int) (i1 : Int) (g2 : Nat → Int) :
    xcode (E2 N) ents laws_toTable.kp 0 N (cL (cK (cB (cA (cB (cB laws_toTable.bd)))))) 0 (laws_toTable.st0 a0 i1 g2) (roundK laws_toTable.kp 0 0 L0 (laws_toTable.k0 N K)) = (laws_toTable.b0 N (fun d0 => K (.agg [⟨.u8, 512, d0⟩]) []) (fun i1 g2 => L0 (laws_toTable.st0 a0 i1 g2)) (fun o4 => (laws_toTable.k0 N K) (.exit 0) (laws_toTable.sx0_0 a0 o4)) a0 i1 g2) := by
  have h := laws_toTable.b0_gen N K L0 (laws_toTable.k0 N K) a0 i1 g2
  rw [laws_toTable.k0_mix] at h
  exact h

theorem laws_toTable.a0_0_eq {ρ : Type} (N : Nat) (K : AV → Heap → Option ρ) (a0 : Nat → Int) (o4 : Nat → Int) :
    (laws_toTable.k0 N K) (.exit 0) (laws_toTable.sx0_0 a0 o4) = (laws_toTable.a0_0 N (fun d0 => K (.agg [⟨.u8, 512, d0⟩]) []) o4) := by kernel_rfl

theorem laws_toTable.l0_eq {ρ : Type} (N : Nat) (K : AV → Heap → Option ρ) (a0 : Nat → Int) :
    ∀ (m : Nat) (i1 : Int) (g2 : Nat → Int), xloop (xcode (E2 N) ents laws_toTable.kp 0 N (cL (cK (cB (cA (cB (cB laws_toTable.bd)))))) 0) laws_toTable.kp 0 0 m (laws_toTable.st0 a0 i1 g2) (laws_toTable.k0 N K) = (laws_toTable.l0 N (fun d0 => K (.agg [⟨.u8, 512, d0⟩]) []) a0 (fun o4 => (laws_toTable.k0 N K) (.exit 0) (laws_toTable.sx0_0 a0 o4)) m i1 g2) := by
  intro m
  induction m with
  | zero => intros; rfl
  | succ m ih =>
    intro i1 g2
    refine (laws_toTable.b0_eq N K (fun s => xloop (xcode (E2 N) ents laws_toTable.kp 0 N (cL (cK (cB (cA (cB (cB laws_toTable.bd)))))) 0) laws_toTable.kp 0 0 m s (laws_toTable.k0 N K)) a0 i1 g2).trans ?_
    simp only [ih]
    kernel_rfl

theorem laws_toTable.s_eq {ρ : Type} (N : Nat) (K : AV → Heap → Option ρ) (a0 : Nat → Int) :
    xbody (E2 N) ents laws_toTable.kp N Go.Proofs.Try.f30 laws_toTable.bd [.agg [⟨.u8, 512, a0⟩]] [] K = (laws_toTable.s N (fun d0 => K (.agg [⟨.u8, 512, d0⟩]) []) (fun i1 g2 => xloop (xcode (E2 N) ents laws_toTable.kp 0 N (cL (cK (cB (cA (cB (cB laws_toTable.bd)))))) 0) laws_toTable.kp 0 0 N (laws_toTable.st0 a0 i1 g2) (laws_toTable.k0 N K))) := by kernel_rfl

theorem laws_toTable.eq {ρ : Type} (N : Nat) (K : AV → Heap → Option ρ) (a0 : Nat → Int) :
    xbody (E2 N) ents laws_toTable.kp N Go.Proofs.Try.f30 laws_toTable.bd [.agg [⟨.u8, 512, a0⟩]] [] K = (laws_toTable N (fun d0 => K (.agg [⟨.u8, 512, d0⟩]) []) a0) := by
  refine (laws_toTable.s_eq N K a0).trans ?_
  simp only [laws_toTable.l0_eq, laws_toTable.a0_0_eq]
  kernel_rfl

noncomputable def laws_toTable.en (N : Nat) (ρ : Type) : List AV → Heap → (AV → Heap → Option ρ) → Option ρ
  | [.agg [⟨.u8, 512, a0⟩]], [], K => (laws_toTable N (fun d0 => K (.agg [⟨.u8, 512, d0⟩]) []) a0)
  | _, _, _ => none

theorem laws_toTable.en_ok (N : Nat) (hE : EnvOk (E2 N) ents) (ρ : Type) (args : List AV) (sh : Heap) (K : AV → Heap → Option ρ) (r : ρ) (h : laws_toTable.en N ρ args sh K = some r) : ∃ v sh', K v sh' = some r ∧ FnOk (E2 N).P 30 args sh v sh' := by
  unfold laws_toTable.en at h
  split at h
  · exact fn_ok hE (kp := laws_toTable.kp) (N := N) Go.Proofs.Try.func30 (c := laws_toTable.bd) (by kernel_rfl) ((laws_toTable.eq N _ _).trans h)
  · cases h

noncomputable def E3 (N : Nat) : Env := (E2 N).add 30 (laws_toTable.en N)

theorem E3_ok (N : Nat) : EnvOk (E3 N) ents := Env.add_ok (E2_ok N) (laws_toTable.en_ok N (E2_ok N))

noncomputable def laws_toHopf.kp : Keeps := ⟨[], []⟩

noncomputable def laws_toHopf.bd : Code := bodyOf Go.Proofs.Try.f11

noncomputable def laws_toHopf.fin {ρ : Type} (N : Nat) (K : AV → Heap → Option ρ) : XE → St → Option ρ := finK (E3 N) Go.Proofs.Try.f11 [] K

theorem laws_toHopf.eq {ρ : Type} (N : Nat) (K : AV → Heap → Option ρ) (a0 : Nat → Int) (a1 : Nat → Int) :
    xbody (E3 N) ents laws_toHopf.kp N Go.Proofs.Try.f11 laws_toHopf.bd [.agg [⟨.i64, 2, a0⟩, ⟨.u8, 1104, a1⟩]] [] K = (laws_toHopf N (fun d0 d1 => K (.agg [⟨.i64, 2, d0⟩, ⟨.u8, 1104, d1⟩]) []) a0 a1) := by kernel_rfl

noncomputable def laws_toHopf.en (N : Nat) (ρ : Type) : List AV → Heap → (AV → Heap → Option ρ) → Option ρ
  | [.agg [⟨.i64, 2, a0⟩, ⟨.u8, 1104, a1⟩]], [], K => (laws_toHopf N (fun d0 d1 => K (.agg [⟨.i64, 2, d0⟩, ⟨.u8, 1104, d1⟩]) []) a0 a1)
  | _, _, _ => none

theorem laws_toHopf.en_ok (N : Nat) (hE : EnvOk (E3 N) ents) (ρ : Type) (args : List AV) (sh : Heap) (K : AV → Heap → Option ρ) (r : ρ) (h : laws_toHopf.en N ρ args sh K = some r) : ∃ v sh', K v sh' = some r ∧ FnOk (E3 N).P 11 args sh v sh' := by
  unfold laws_toHopf.en at h
  split at h
  · exact fn_ok hE (kp := laws_toHopf.kp) (N := N) Go.Proofs.Try.func11 (c := laws_toHopf.bd) (by kernel_rfl) ((laws_toHopf.eq N _ _ _).trans h)
  · cases h

noncomputable def E4 (N : Nat) : Env := (E3 N).add 11 (laws_toHopf.en N)

theorem E4_ok (N : Nat) : EnvOk (E4 N) ents := Env.add_ok (E3_ok N) (laws_toHopf.en_ok N (E3_ok N))

noncomputable def spec_l03Algebra.kp : Keeps := ⟨[], []⟩

noncomputable def spec_l03Algebra.bd : Code := bodyOf Go.Proofs.Try.f41

noncomputable def spec_l03Algebra.fin {ρ : Type} (N : Nat) (K : AV → Heap → Option ρ) : XE → St → Option ρ := finK (E4 N) Go.Proofs.Try.f41 [] K

theorem spec_l03Algebra.eq {ρ : Type} (N : Nat) (K : AV → Heap → Option ρ) (h0 : Nat → Int) (h1 : Nat → Int) :
    xbody (E4 N) ents spec_l03Algebra.kp N Go.Proofs.Try.f41 spec_l03Algebra.bd [.agg [⟨.i64, 2, h0⟩, ⟨.u8, 1104, h1⟩]] [] K = (spec_l03Algebra N (fun d0 d1 => K (.agg [⟨.i64, 2, d0⟩, ⟨.u8, 520, d1⟩]) []) h0 h1) := by kernel_rfl

noncomputable def spec_l03Algebra.en (N : Nat) (ρ : Type) : List AV → Heap → (AV → Heap → Option ρ) → Option ρ
  | [.agg [⟨.i64, 2, h0⟩, ⟨.u8, 1104, h1⟩]], [], K => (spec_l03Algebra N (fun d0 d1 => K (.agg [⟨.i64, 2, d0⟩, ⟨.u8, 520, d1⟩]) []) h0 h1)
  | _, _, _ => none

theorem spec_l03Algebra.en_ok (N : Nat) (hE : EnvOk (E4 N) ents) (ρ : Type) (args : List AV) (sh : Heap) (K : AV → Heap → Option ρ) (r : ρ) (h : spec_l03Algebra.en N ρ args sh K = some r) : ∃ v sh', K v sh' = some r ∧ FnOk (E4 N).P 41 args sh v sh' := by
  unfold spec_l03Algebra.en at h
  split at h
  · exact fn_ok hE (kp := spec_l03Algebra.kp) (N := N) Go.Proofs.Try.func41 (c := spec_l03Algebra.bd) (by kernel_rfl) ((spec_l03Algebra.eq N _ _ _).trans h)
  · cases h

noncomputable def E5 (N : Nat) : Env := (E4 N).add 41 (spec_l03Algebra.en N)

theorem E5_ok (N : Nat) : EnvOk (E5 N) ents := Env.add_ok (E4_ok N) (spec_l03Algebra.en_ok N (E4_ok N))

noncomputable def spec_l01In.kp : Keeps := ⟨[], []⟩

noncomputable def spec_l01In.bd : Code := bodyOf Go.Proofs.Try.f108

noncomputable def spec_l01In.fin {ρ : Type} (N : Nat) (K : AV → Heap → Option ρ) : XE → St → Option ρ := finK (E5 N) Go.Proofs.Try.f108 [] K

theorem spec_l01In.eq {ρ : Type} (N : Nat) (K : AV → Heap → Option ρ) (n0 : Int) (low1 : Int) (high2 : Int) :
    xbody (E5 N) ents spec_l01In.kp N Go.Proofs.Try.f108 spec_l01In.bd [.int .i64 (n0), .int .i64 (low1), .int .i64 (high2)] [] K = (spec_l01In N (fun d0 => K (.bool (d0)) []) n0 low1 high2) := by kernel_rfl

noncomputable def spec_l01In.en (N : Nat) (ρ : Type) : List AV → Heap → (AV → Heap → Option ρ) → Option ρ
  | [.int .i64 (n0), .int .i64 (low1), .int .i64 (high2)], [], K => (spec_l01In N (fun d0 => K (.bool (d0)) []) n0 low1 high2)
  | _, _, _ => none

theorem spec_l01In.en_ok (N : Nat) (hE : EnvOk (E5 N) ents) (ρ : Type) (args : List AV) (sh : Heap) (K : AV → Heap → Option ρ) (r : ρ) (h : spec_l01In.en N ρ args sh K = some r) : ∃ v sh', K v sh' = some r ∧ FnOk (E5 N).P 108 args sh v sh' := by
  unfold spec_l01In.en at h
  split at h
  · exact fn_ok hE (kp := spec_l01In.kp) (N := N) Go.Proofs.Try.func108 (c := spec_l01In.bd) (by kernel_rfl) ((spec_l01In.eq N _ _ _ _).trans h)
  · cases h

noncomputable def E6 (N : Nat) : Env := (E5 N).add 108 (spec_l01In.en N)

theorem E6_ok (N : Nat) : EnvOk (E6 N) ents := Env.add_ok (E5_ok N) (spec_l01In.en_ok N (E5_ok N))

noncomputable def spec_l01Prime.kp : Keeps := ⟨[(0, [0, 3], 0)], [(0, [0], 0)]⟩

noncomputable def spec_l01Prime.bd : Code := bodyOf Go.Proofs.Try.f107

noncomputable def spec_l01Prime.fin {ρ : Type} (N : Nat) (K : AV → Heap → Option ρ) : XE → St → Option ρ := finK (E6 N) Go.Proofs.Try.f107 [] K

noncomputable def spec_l01Prime.k0 {ρ : Type} (N : Nat) (K : AV → Heap → Option ρ) : XE → St → Option ρ := (blockK spec_l01Prime.kp 0 0 (seqK (xcode (E6 N) ents spec_l01Prime.kp 0 N (cB (cB spec_l01Prime.bd)) 0) (spec_l01Prime.fin N K)))

theorem spec_l01Prime.k0_mix {ρ : Type} (N : Nat) (K : AV → Heap → Option ρ) : mixK (spec_l01Prime.fin N K .ret) (spec_l01Prime.k0 N K) = (spec_l01Prime.k0 N K) := by
  funext e s; cases e <;> rfl

noncomputable def spec_l01Prime.st0 (p0 : Int) (k1 : Int) : St := ⟨sl 19 [(0, .int .i64 (p0)), (3, .int .i64 (k1))], []⟩

noncomputable def spec_l01Prime.sx0_0 (p0 : Int) : St := ⟨sl 19 [(0, .int .i64 (p0))], []⟩

theorem spec_l01Prime.b0_gen {ρ : Type} (N : Nat) (K : AV → Heap → Option ρ) (L0 : St → Option ρ) (kv : XE → St → Option ρ) (p0 : Int) (k1 : Int) :
    xcode (E6 N) ents spec_l01Prime.kp 0 N (cL (cK (cB (cA (cB spec_l01Prime.bd))))) 0 (spec_l01Prime.st0 p0 k1) (roundK spec_l01Prime.kp 0 0 L0 (mixK (spec_l01Prime.fin N K .ret) kv)) = (spec_l01Prime.b0 N (fun d0 => K (.bool (d0)) []) (fun k1 => L0 (spec_l01Prime.st0 p0 k1)) (kv (.exit 0) (spec_l01Prime.sx0_0 p0)) p0 k1) := by kernel_rfl

theorem spec_l01Prime.b0_eq {ρ : Type} (N : Nat) (K : AV → Heap → Option ρ) (L0 : St → Option ρ) (p0 : Int) (k1 : Int) :
    xcode (E6 N) ents spec_l01Prime.kp 0 N (cL (cK (cB (cA (cB spec_l01Prime.bd))))) 0 (spec_l01Prime.st0 p0 k1) (roundK spec_l01Prime.kp 0 0 L0 (spec_l01Prime.k0 N K)) = (spec_l01Prime.b0 N (fun d0 => K (.bool (d0)) []) (fun k1 => L0 (spec_l01Prime.st0 p0 k1)) ((spec_l01Prime.k0 N K) (.exit 0) (spec_l01Prime.sx0_0 p0)) p0 k1) := by
  have h := spec_l01Prime.b0_gen N K L0 (spec_l01Prime.k0 N K) p0 k1
  rw [spec_l01Prime.k0_mix] at h
  exact h

theorem spec_l01Prime.a0_0_eq {ρ : Type} (N : Nat) (K : AV → Heap → Option ρ) (p0 : Int) :
    (spec_l01Prime.k0 N K) (.exit 0) (spec_l01Prime.sx0_0 p0) = (spec_l01Prime.a0_0 N (fun d0 => K (.bool (d0)) []) p0) := by kernel_rfl

theorem spec_l01Prime.l0_eq {ρ : Type} (N : Nat) (K : AV → Heap → Option ρ) (p0 : Int) :
    ∀ (m : Nat) (k1 : Int), xloop (xcode (E6 N) ents spec_l01Prime.kp 0 N (cL (cK (cB (cA (cB spec_l01Prime.bd))))) 0) spec_l01Prime.kp 0 0 m (spec_l01Prime.st0 p0 k1) (spec_l01Prime.k0 N K) = (spec_l01Prime.l0 N (fun d0 => K (.bool (d0)) []) p0 ((spec_l01Prime.k0 N K) (.exit 0) (spec_l01Prime.sx0_0 p0)) m k1) := by
  intro m
  induction m with
  | zero => intros; rfl
  | succ m ih =>
    intro k1
    refine (spec_l01Prime.b0_eq N K (fun s => xloop (xcode (E6 N) ents spec_l01Prime.kp 0 N (cL (cK (cB (cA (cB spec_l01Prime.bd))))) 0) spec_l01Prime.kp 0 0 m s (spec_l01Prime.k0 N K)) p0 k1).trans ?_
    simp only [ih]
    kernel_rfl

theorem spec_l01Prime.s_eq {ρ : Type} (N : Nat) (K : AV → Heap → Option ρ) (p0 : Int) :
    xbody (E6 N) ents spec_l01Prime.kp N Go.Proofs.Try.f107 spec_l01Prime.bd [.int .i64 (p0)] [] K = (spec_l01Prime.s N (fun d0 => K (.bool (d0)) []) (fun k1 => xloop (xcode (E6 N) ents spec_l01Prime.kp 0 N (cL (cK (cB (cA (cB spec_l01Prime.bd))))) 0) spec_l01Prime.kp 0 0 N (spec_l01Prime.st0 p0 k1) (spec_l01Prime.k0 N K))) := by kernel_rfl

theorem spec_l01Prime.eq {ρ : Type} (N : Nat) (K : AV → Heap → Option ρ) (p0 : Int) :
    xbody (E6 N) ents spec_l01Prime.kp N Go.Proofs.Try.f107 spec_l01Prime.bd [.int .i64 (p0)] [] K = (spec_l01Prime N (fun d0 => K (.bool (d0)) []) p0) := by
  refine (spec_l01Prime.s_eq N K p0).trans ?_
  simp only [spec_l01Prime.l0_eq, spec_l01Prime.a0_0_eq]
  kernel_rfl

noncomputable def spec_l01Prime.en (N : Nat) (ρ : Type) : List AV → Heap → (AV → Heap → Option ρ) → Option ρ
  | [.int .i64 (p0)], [], K => (spec_l01Prime N (fun d0 => K (.bool (d0)) []) p0)
  | _, _, _ => none

theorem spec_l01Prime.en_ok (N : Nat) (hE : EnvOk (E6 N) ents) (ρ : Type) (args : List AV) (sh : Heap) (K : AV → Heap → Option ρ) (r : ρ) (h : spec_l01Prime.en N ρ args sh K = some r) : ∃ v sh', K v sh' = some r ∧ FnOk (E6 N).P 107 args sh v sh' := by
  unfold spec_l01Prime.en at h
  split at h
  · exact fn_ok hE (kp := spec_l01Prime.kp) (N := N) Go.Proofs.Try.func107 (c := spec_l01Prime.bd) (by kernel_rfl) ((spec_l01Prime.eq N _ _).trans h)
  · cases h

noncomputable def E7 (N : Nat) : Env := (E6 N).add 107 (spec_l01Prime.en N)

theorem E7_ok (N : Nat) : EnvOk (E7 N) ents := Env.add_ok (E6_ok N) (spec_l01Prime.en_ok N (E6_ok N))

noncomputable def spec_l01Sizes.kp : Keeps := ⟨[], []⟩

noncomputable def spec_l01Sizes.bd : Code := bodyOf Go.Proofs.Try.f89

noncomputable def spec_l01Sizes.fin {ρ : Type} (N : Nat) (K : AV → Heap → Option ρ) : XE → St → Option ρ := finK (E7 N) Go.Proofs.Try.f89 [] K

theorem spec_l01Sizes.eq {ρ : Type} (N : Nat) (K : AV → Heap → Option ρ) (p0 : Int) (n1 : Int) :
    xbody (E7 N) ents spec_l01Sizes.kp N Go.Proofs.Try.f89 spec_l01Sizes.bd [.int .i64 (p0), .int .i64 (n1)] [] K = (spec_l01Sizes N (fun d0 => K (.bool (d0)) []) p0 n1) := by kernel_rfl

noncomputable def spec_l01Sizes.en (N : Nat) (ρ : Type) : List AV → Heap → (AV → Heap → Option ρ) → Option ρ
  | [.int .i64 (p0), .int .i64 (n1)], [], K => (spec_l01Sizes N (fun d0 => K (.bool (d0)) []) p0 n1)
  | _, _, _ => none

theorem spec_l01Sizes.en_ok (N : Nat) (hE : EnvOk (E7 N) ents) (ρ : Type) (args : List AV) (sh : Heap) (K : AV → Heap → Option ρ) (r : ρ) (h : spec_l01Sizes.en N ρ args sh K = some r) : ∃ v sh', K v sh' = some r ∧ FnOk (E7 N).P 89 args sh v sh' := by
  unfold spec_l01Sizes.en at h
  split at h
  · exact fn_ok hE (kp := spec_l01Sizes.kp) (N := N) Go.Proofs.Try.func89 (c := spec_l01Sizes.bd) (by kernel_rfl) ((spec_l01Sizes.eq N _ _ _).trans h)
  · cases h

noncomputable def E8 (N : Nat) : Env := (E7 N).add 89 (spec_l01Sizes.en N)

theorem E8_ok (N : Nat) : EnvOk (E8 N) ents := Env.add_ok (E7_ok N) (spec_l01Sizes.en_ok N (E7_ok N))

noncomputable def spec_l01Vector.kp : Keeps := ⟨[(0, [0, 1, 5, 7], 1)], [(0, [], 1)]⟩

noncomputable def spec_l01Vector.bd : Code := bodyOf Go.Proofs.Try.f69

noncomputable def spec_l01Vector.fin {ρ : Type} (N : Nat) (K : AV → Heap → Option ρ) : XE → St → Option ρ := finK (E8 N) Go.Proofs.Try.f69 [] K

noncomputable def spec_l01Vector.k0 {ρ : Type} (N : Nat) (K : AV → Heap → Option ρ) : XE → St → Option ρ := (blockK spec_l01Vector.kp 0 0 (seqK (xcode (E8 N) ents spec_l01Vector.kp 0 N (cB (cB spec_l01Vector.bd)) 0) (spec_l01Vector.fin N K)))

theorem spec_l01Vector.k0_mix {ρ : Type} (N : Nat) (K : AV → Heap → Option ρ) : mixK (spec_l01Vector.fin N K .ret) (spec_l01Vector.k0 N K) = (spec_l01Vector.k0 N K) := by
  funext e s; cases e <;> rfl

noncomputable def spec_l01Vector.st0 (p0 : Int) (n1 : Int) (v2 : Nat → Int) (i3 : Int) : St := ⟨sl 29 [(0, .int .i64 (p0)), (1, .int .i64 (n1)), (5, .sptr [(0, 8)]), (7, .int .i64 (i3))], [⟨true, .ints .u8 8 v2⟩]⟩

noncomputable def spec_l01Vector.sx0_0 (v2 : Nat → Int) : St := ⟨sl 29 [], [⟨true, .ints .u8 8 v2⟩]⟩

theorem spec_l01Vector.b0_gen {ρ : Type} (N : Nat) (K : AV → Heap → Option ρ) (L0 : St → Option ρ) (kv : XE → St → Option ρ) (p0 : Int) (n1 : Int) (v2 : Nat → Int) (i3 : Int) :
    xcode (E8 N) ents spec_l01Vector.kp 0 N (cL (cK (cB (cA (cB spec_l01Vector.bd))))) 0 (spec_l01Vector.st0 p0 n1 v2 i3) (roundK spec_l01Vector.kp 0 0 L0 (mixK (spec_l01Vector.fin N K .ret) kv)) = (spec_l01Vector.b0 N (fun d0 => K (.bool (d0)) []) (fun i3 => L0 (spec_l01Vector.st0 p0 n1 v2 i3)) (kv (.exit 0) (spec_l01Vector.sx0_0 v2)) p0 n1 v2 i3) := by kernel_rfl

theorem spec_l01Vector.b0_eq {ρ : Type} (N : Nat) (K : AV → Heap → Option ρ) (L0 : St → Option ρ) (p0 : Int) (n1 : Int) (v2 : Nat → Int) (i3 : Int) :
    xcode (E8 N) ents spec_l01Vector.kp 0 N (cL (cK (cB (cA (cB spec_l01Vector.bd))))) 0 (spec_l01Vector.st0 p0 n1 v2 i3) (roundK spec_l01Vector.kp 0 0 L0 (spec_l01Vector.k0 N K)) = (spec_l01Vector.b0 N (fun d0 => K (.bool (d0)) []) (fun i3 => L0 (spec_l01Vector.st0 p0 n1 v2 i3)) ((spec_l01Vector.k0 N K) (.exit 0) (spec_l01Vector.sx0_0 v2)) p0 n1 v2 i3) := by
  have h := spec_l01Vector.b0_gen N K L0 (spec_l01Vector.k0 N K) p0 n1 v2 i3
  rw [spec_l01Vector.k0_mix] at h
  exact h

theorem spec_l01Vector.a0_0_eq {ρ : Type} (N : Nat) (K : AV → Heap → Option ρ) (v2 : Nat → Int) :
    (spec_l01Vector.k0 N K) (.exit 0) (spec_l01Vector.sx0_0 v2) = (spec_l01Vector.a0_0 N (fun d0 => K (.bool (d0)) [])) := by kernel_rfl

theorem spec_l01Vector.l0_eq {ρ : Type} (N : Nat) (K : AV → Heap → Option ρ) (p0 : Int) (n1 : Int) (v2 : Nat → Int) :
    ∀ (m : Nat) (i3 : Int), xloop (xcode (E8 N) ents spec_l01Vector.kp 0 N (cL (cK (cB (cA (cB spec_l01Vector.bd))))) 0) spec_l01Vector.kp 0 0 m (spec_l01Vector.st0 p0 n1 v2 i3) (spec_l01Vector.k0 N K) = (spec_l01Vector.l0 N (fun d0 => K (.bool (d0)) []) p0 n1 v2 ((spec_l01Vector.k0 N K) (.exit 0) (spec_l01Vector.sx0_0 v2)) m i3) := by
  intro m
  induction m with
  | zero => intros; rfl
  | succ m ih =>
    intro i3
    refine (spec_l01Vector.b0_eq N K (fun s => xloop (xcode (E8 N) ents spec_l01Vector.kp 0 N (cL (cK (cB (cA (cB spec_l01Vector.bd))))) 0) spec_l01Vector.kp 0 0 m s (spec_l01Vector.k0 N K)) p0 n1 v2 i3).trans ?_
    simp only [ih]
    kernel_rfl

theorem spec_l01Vector.s_eq {ρ : Type} (N : Nat) (K : AV → Heap → Option ρ) (p0 : Int) (n1 : Int) (v2 : Nat → Int) :
    xbody (E8 N) ents spec_l01Vector.kp N Go.Proofs.Try.f69 spec_l01Vector.bd [.int .i64 (p0), .int .i64 (n1), .agg [⟨.u8, 8, v2⟩]] [] K = (spec_l01Vector.s N (fun d0 => K (.bool (d0)) []) (fun i3 => xloop (xcode (E8 N) ents spec_l01Vector.kp 0 N (cL (cK (cB (cA (cB spec_l01Vector.bd))))) 0) spec_l01Vector.kp 0 0 N (spec_l01Vector.st0 p0 n1 v2 i3) (spec_l01Vector.k0 N K))) := by kernel_rfl

theorem spec_l01Vector.eq {ρ : Type} (N : Nat) (K : AV → Heap → Option ρ) (p0 : Int) (n1 : Int) (v2 : Nat → Int) :
    xbody (E8 N) ents spec_l01Vector.kp N Go.Proofs.Try.f69 spec_l01Vector.bd [.int .i64 (p0), .int .i64 (n1), .agg [⟨.u8, 8, v2⟩]] [] K = (spec_l01Vector N (fun d0 => K (.bool (d0)) []) p0 n1 v2) := by
  refine (spec_l01Vector.s_eq N K p0 n1 v2).trans ?_
  simp only [spec_l01Vector.l0_eq, spec_l01Vector.a0_0_eq]
  kernel_rfl

noncomputable def spec_l01Vector.en (N : Nat) (ρ : Type) : List AV → Heap → (AV → Heap → Option ρ) → Option ρ
  | [.int .i64 (p0), .int .i64 (n1), .agg [⟨.u8, 8, v2⟩]], [], K => (spec_l01Vector N (fun d0 => K (.bool (d0)) []) p0 n1 v2)
  | _, _, _ => none

theorem spec_l01Vector.en_ok (N : Nat) (hE : EnvOk (E8 N) ents) (ρ : Type) (args : List AV) (sh : Heap) (K : AV → Heap → Option ρ) (r : ρ) (h : spec_l01Vector.en N ρ args sh K = some r) : ∃ v sh', K v sh' = some r ∧ FnOk (E8 N).P 69 args sh v sh' := by
  unfold spec_l01Vector.en at h
  split at h
  · exact fn_ok hE (kp := spec_l01Vector.kp) (N := N) Go.Proofs.Try.func69 (c := spec_l01Vector.bd) (by kernel_rfl) ((spec_l01Vector.eq N _ _ _ _).trans h)
  · cases h

noncomputable def E9 (N : Nat) : Env := (E8 N).add 69 (spec_l01Vector.en N)

theorem E9_ok (N : Nat) : EnvOk (E9 N) ents := Env.add_ok (E8_ok N) (spec_l01Vector.en_ok N (E8_ok N))

noncomputable def spec_l01Linear.kp : Keeps := ⟨[(0, [0, 1, 5, 7], 1)], [(0, [], 1)]⟩

noncomputable def spec_l01Linear.bd : Code := bodyOf Go.Proofs.Try.f71

noncomputable def spec_l01Linear.fin {ρ : Type} (N : Nat) (K : AV → Heap → Option ρ) : XE → St → Option ρ := finK (E9 N) Go.Proofs.Try.f71 [] K

noncomputable def spec_l01Linear.k0 {ρ : Type} (N : Nat) (K : AV → Heap → Option ρ) : XE → St → Option ρ := (blockK spec_l01Linear.kp 0 0 (seqK (xcode (E9 N) ents spec_l01Linear.kp 0 N (cB (cB spec_l01Linear.bd)) 0) (spec_l01Linear.fin N K)))

theorem spec_l01Linear.k0_mix {ρ : Type} (N : Nat) (K : AV → Heap → Option ρ) : mixK (spec_l01Linear.fin N K .ret) (spec_l01Linear.k0 N K) = (spec_l01Linear.k0 N K) := by
  funext e s; cases e <;> rfl

noncomputable def spec_l01Linear.st0 (p0 : Int) (n1 : Int) (f2 : Nat → Int) (i3 : Int) : St := ⟨sl 31 [(0, .int .i64 (p0)), (1, .int .i64 (n1)), (5, .sptr [(0, 64)]), (7, .int .i64 (i3))], [⟨true, .ints .u8 64 f2⟩]⟩

noncomputable def spec_l01Linear.sx0_0 (f2 : Nat → Int) : St := ⟨sl 31 [], [⟨true, .ints .u8 64 f2⟩]⟩

theorem spec_l01Linear.b0_gen {ρ : Type} (N : Nat) (K : AV → Heap → Option ρ) (L0 : St → Option ρ) (kv : XE → St → Option ρ) (p0 : Int) (n1 : Int) (f2 : Nat → Int) (i3 : Int) :
    xcode (E9 N) ents spec_l01Linear.kp 0 N (cL (cK (cB (cA (cB spec_l01Linear.bd))))) 0 (spec_l01Linear.st0 p0 n1 f2 i3) (roundK spec_l01Linear.kp 0 0 L0 (mixK (spec_l01Linear.fin N K .ret) kv)) = (spec_l01Linear.b0 N (fun d0 => K (.bool (d0)) []) (fun i3 => L0 (spec_l01Linear.st0 p0 n1 f2 i3)) (kv (.exit 0) (spec_l01Linear.sx0_0 f2)) p0 n1 f2 i3) := by kernel_rfl

theorem spec_l01Linear.b0_eq {ρ : Type} (N : Nat) (K : AV → Heap → Option ρ) (L0 : St → Option ρ) (p0 : Int) (n1 : Int) (f2 : Nat → Int) (i3 : Int) :
    xcode (E9 N) ents spec_l01Linear.kp 0 N (cL (cK (cB (cA (cB spec_l01Linear.bd))))) 0 (spec_l01Linear.st0 p0 n1 f2 i3) (roundK spec_l01Linear.kp 0 0 L0 (spec_l01Linear.k0 N K)) = (spec_l01Linear.b0 N (fun d0 => K (.bool (d0)) []) (fun i3 => L0 (spec_l01Linear.st0 p0 n1 f2 i3)) ((spec_l01Linear.k0 N K) (.exit 0) (spec_l01Linear.sx0_0 f2)) p0 n1 f2 i3) := by
  have h := spec_l01Linear.b0_gen N K L0 (spec_l01Linear.k0 N K) p0 n1 f2 i3
  rw [spec_l01Linear.k0_mix] at h
  exact h

theorem spec_l01Linear.a0_0_eq {ρ : Type} (N : Nat) (K : AV → Heap → Option ρ) (f2 : Nat → Int) :
    (spec_l01Linear.k0 N K) (.exit 0) (spec_l01Linear.sx0_0 f2) = (spec_l01Linear.a0_0 N (fun d0 => K (.bool (d0)) [])) := by kernel_rfl

theorem spec_l01Linear.l0_eq {ρ : Type} (N : Nat) (K : AV → Heap → Option ρ) (p0 : Int) (n1 : Int) (f2 : Nat → Int) :
    ∀ (m : Nat) (i3 : Int), xloop (xcode (E9 N) ents spec_l01Linear.kp 0 N (cL (cK (cB (cA (cB spec_l01Linear.bd))))) 0) spec_l01Linear.kp 0 0 m (spec_l01Linear.st0 p0 n1 f2 i3) (spec_l01Linear.k0 N K) = (spec_l01Linear.l0 N (fun d0 => K (.bool (d0)) []) p0 n1 f2 ((spec_l01Linear.k0 N K) (.exit 0) (spec_l01Linear.sx0_0 f2)) m i3) := by
  intro m
  induction m with
  | zero => intros; rfl
  | succ m ih =>
    intro i3
    refine (spec_l01Linear.b0_eq N K (fun s => xloop (xcode (E9 N) ents spec_l01Linear.kp 0 N (cL (cK (cB (cA (cB spec_l01Linear.bd))))) 0) spec_l01Linear.kp 0 0 m s (spec_l01Linear.k0 N K)) p0 n1 f2 i3).trans ?_
    simp only [ih]
    kernel_rfl

theorem spec_l01Linear.s_eq {ρ : Type} (N : Nat) (K : AV → Heap → Option ρ) (p0 : Int) (n1 : Int) (f2 : Nat → Int) :
    xbody (E9 N) ents spec_l01Linear.kp N Go.Proofs.Try.f71 spec_l01Linear.bd [.int .i64 (p0), .int .i64 (n1), .agg [⟨.u8, 64, f2⟩]] [] K = (spec_l01Linear.s N (fun d0 => K (.bool (d0)) []) (fun i3 => xloop (xcode (E9 N) ents spec_l01Linear.kp 0 N (cL (cK (cB (cA (cB spec_l01Linear.bd))))) 0) spec_l01Linear.kp 0 0 N (spec_l01Linear.st0 p0 n1 f2 i3) (spec_l01Linear.k0 N K))) := by kernel_rfl

theorem spec_l01Linear.eq {ρ : Type} (N : Nat) (K : AV → Heap → Option ρ) (p0 : Int) (n1 : Int) (f2 : Nat → Int) :
    xbody (E9 N) ents spec_l01Linear.kp N Go.Proofs.Try.f71 spec_l01Linear.bd [.int .i64 (p0), .int .i64 (n1), .agg [⟨.u8, 64, f2⟩]] [] K = (spec_l01Linear N (fun d0 => K (.bool (d0)) []) p0 n1 f2) := by
  refine (spec_l01Linear.s_eq N K p0 n1 f2).trans ?_
  simp only [spec_l01Linear.l0_eq, spec_l01Linear.a0_0_eq]
  kernel_rfl

noncomputable def spec_l01Linear.en (N : Nat) (ρ : Type) : List AV → Heap → (AV → Heap → Option ρ) → Option ρ
  | [.int .i64 (p0), .int .i64 (n1), .agg [⟨.u8, 64, f2⟩]], [], K => (spec_l01Linear N (fun d0 => K (.bool (d0)) []) p0 n1 f2)
  | _, _, _ => none

theorem spec_l01Linear.en_ok (N : Nat) (hE : EnvOk (E9 N) ents) (ρ : Type) (args : List AV) (sh : Heap) (K : AV → Heap → Option ρ) (r : ρ) (h : spec_l01Linear.en N ρ args sh K = some r) : ∃ v sh', K v sh' = some r ∧ FnOk (E9 N).P 71 args sh v sh' := by
  unfold spec_l01Linear.en at h
  split at h
  · exact fn_ok hE (kp := spec_l01Linear.kp) (N := N) Go.Proofs.Try.func71 (c := spec_l01Linear.bd) (by kernel_rfl) ((spec_l01Linear.eq N _ _ _ _).trans h)
  · cases h

noncomputable def E10 (N : Nat) : Env := (E9 N).add 71 (spec_l01Linear.en N)

theorem E10_ok (N : Nat) : EnvOk (E10 N) ents := Env.add_ok (E9_ok N) (spec_l01Linear.en_ok N (E9_ok N))

noncomputable def spec_l01Table.kp : Keeps := ⟨[(0, [0, 1, 5, 7], 1)], [(0, [], 1)]⟩

noncomputable def spec_l01Table.bd : Code := bodyOf Go.Proofs.Try.f70

noncomputable def spec_l01Table.fin {ρ : Type} (N : Nat) (K : AV → Heap → Option ρ) : XE → St → Option ρ := finK (E10 N) Go.Proofs.Try.f70 [] K

noncomputable def spec_l01Table.k0 {ρ : Type} (N : Nat) (K : AV → Heap → Option ρ) : XE → St → Option ρ := (blockK spec_l01Table.kp 0 0 (seqK (xcode (E10 N) ents spec_l01Table.kp 0 N (cB (cB spec_l01Table.bd)) 0) (spec_l01Table.fin N K)))

theorem spec_l01Table.k0_mix {ρ : Type} (N : Nat) (K : AV → Heap → Option ρ) : mixK (spec_l01Table.fin N K .ret) (spec_l01Table.k0 N K) = (spec_l01Table.k0 N K) := by
  funext e s; cases e <;> rfl

noncomputable def spec_l01Table.st0 (p0 : Int) (n1 : Int) (t2 : Nat → Int) (i3 : Int) : St := ⟨sl 31 [(0, .int .i64 (p0)), (1, .int .i64 (n1)), (5, .sptr [(0, 512)]), (7, .int .i64 (i3))], [⟨true, .ints .u8 512 t2⟩]⟩

noncomputable def spec_l01Table.sx0_0 (t2 : Nat → Int) : St := ⟨sl 31 [], [⟨true, .ints .u8 512 t2⟩]⟩

theorem spec_l01Table.b0_gen {ρ : Type} (N : Nat) (K : AV → Heap → Option ρ) (L0 : St → Option ρ) (kv : XE → St → Option ρ) (p0 : Int) (n1 : Int) (t2 : Nat → Int) (i3 : Int) :
    xcode (E10 N) ents spec_l01Table.kp 0 N (cL (cK (cB (cA (cB spec_l01Table.bd))))) 0 (spec_l01Table.st0 p0 n1 t2 i3) (roundK spec_l01Table.kp 0 0 L0 (mixK (spec_l01Table.fin N K .ret) kv)) = (spec_l01Table.b0 N (fun d0 => K (.bool (d0)) []) (fun i3 => L0 (spec_l01Table.st0 p0 n1 t2 i3)) (kv (.exit 0) (spec_l01Table.sx0_0 t2)) p0 n1 t2 i3) := by kernel_rfl

theorem spec_l01Table.b0_eq {ρ : Type} (N : Nat) (K : AV → Heap → Option ρ) (L0 : St → Option ρ) (p0 : Int) (n1 : Int) (t2 : Nat → Int) (i3 : Int) :
    xcode (E10 N) ents spec_l01Table.kp 0 N (cL (cK (cB (cA (cB spec_l01Table.bd))))) 0 (spec_l01Table.st0 p0 n1 t2 i3) (roundK spec_l01Table.kp 0 0 L0 (spec_l01Table.k0 N K)) = (spec_l01Table.b0 N (fun d0 => K (.bool (d0)) []) (fun i3 => L0 (spec_l01Table.st0 p0 n1 t2 i3)) ((spec_l01Table.k0 N K) (.exit 0) (spec_l01Table.sx0_0 t2)) p0 n1 t2 i3) := by
  have h := spec_l01Table.b0_gen N K L0 (spec_l01Table.k0 N K) p0 n1 t2 i3
  rw [spec_l01Table.k0_mix] at h
  exact h

theorem spec_l01Table.a0_0_eq {ρ : Type} (N : Nat) (K : AV → Heap → Option ρ) (t2 : Nat → Int) :
    (spec_l01Table.k0 N K) (.exit 0) (spec_l01Table.sx0_0 t2) = (spec_l01Table.a0_0 N (fun d0 => K (.bool (d0)) [])) := by kernel_rfl

theorem spec_l01Table.l0_eq {ρ : Type} (N : Nat) (K : AV → Heap → Option ρ) (p0 : Int) (n1 : Int) (t2 : Nat → Int) :
    ∀ (m : Nat) (i3 : Int), xloop (xcode (E10 N) ents spec_l01Table.kp 0 N (cL (cK (cB (cA (cB spec_l01Table.bd))))) 0) spec_l01Table.kp 0 0 m (spec_l01Table.st0 p0 n1 t2 i3) (spec_l01Table.k0 N K) = (spec_l01Table.l0 N (fun d0 => K (.bool (d0)) []) p0 n1 t2 ((spec_l01Table.k0 N K) (.exit 0) (spec_l01Table.sx0_0 t2)) m i3) := by
  intro m
  induction m with
  | zero => intros; rfl
  | succ m ih =>
    intro i3
    refine (spec_l01Table.b0_eq N K (fun s => xloop (xcode (E10 N) ents spec_l01Table.kp 0 N (cL (cK (cB (cA (cB spec_l01Table.bd))))) 0) spec_l01Table.kp 0 0 m s (spec_l01Table.k0 N K)) p0 n1 t2 i3).trans ?_
    simp only [ih]
    kernel_rfl

theorem spec_l01Table.s_eq {ρ : Type} (N : Nat) (K : AV → Heap → Option ρ) (p0 : Int) (n1 : Int) (t2 : Nat → Int) :
    xbody (E10 N) ents spec_l01Table.kp N Go.Proofs.Try.f70 spec_l01Table.bd [.int .i64 (p0), .int .i64 (n1), .agg [⟨.u8, 512, t2⟩]] [] K = (spec_l01Table.s N (fun d0 => K (.bool (d0)) []) (fun i3 => xloop (xcode (E10 N) ents spec_l01Table.kp 0 N (cL (cK (cB (cA (cB spec_l01Table.bd))))) 0) spec_l01Table.kp 0 0 N (spec_l01Table.st0 p0 n1 t2 i3) (spec_l01Table.k0 N K))) := by kernel_rfl

theorem spec_l01Table.eq {ρ : Type} (N : Nat) (K : AV → Heap → Option ρ) (p0 : Int) (n1 : Int) (t2 : Nat → Int) :
    xbody (E10 N) ents spec_l01Table.kp N Go.Proofs.Try.f70 spec_l01Table.bd [.int .i64 (p0), .int .i64 (n1), .agg [⟨.u8, 512, t2⟩]] [] K = (spec_l01Table N (fun d0 => K (.bool (d0)) []) p0 n1 t2) := by
  refine (spec_l01Table.s_eq N K p0 n1 t2).trans ?_
  simp only [spec_l01Table.l0_eq, spec_l01Table.a0_0_eq]
  kernel_rfl

noncomputable def spec_l01Table.en (N : Nat) (ρ : Type) : List AV → Heap → (AV → Heap → Option ρ) → Option ρ
  | [.int .i64 (p0), .int .i64 (n1), .agg [⟨.u8, 512, t2⟩]], [], K => (spec_l01Table N (fun d0 => K (.bool (d0)) []) p0 n1 t2)
  | _, _, _ => none

theorem spec_l01Table.en_ok (N : Nat) (hE : EnvOk (E10 N) ents) (ρ : Type) (args : List AV) (sh : Heap) (K : AV → Heap → Option ρ) (r : ρ) (h : spec_l01Table.en N ρ args sh K = some r) : ∃ v sh', K v sh' = some r ∧ FnOk (E10 N).P 70 args sh v sh' := by
  unfold spec_l01Table.en at h
  split at h
  · exact fn_ok hE (kp := spec_l01Table.kp) (N := N) Go.Proofs.Try.func70 (c := spec_l01Table.bd) (by kernel_rfl) ((spec_l01Table.eq N _ _ _ _).trans h)
  · cases h

noncomputable def E11 (N : Nat) : Env := (E10 N).add 70 (spec_l01Table.en N)

theorem E11_ok (N : Nat) : EnvOk (E11 N) ents := Env.add_ok (E10_ok N) (spec_l01Table.en_ok N (E10_ok N))

noncomputable def spec_l01Shape.kp : Keeps := ⟨[], []⟩

noncomputable def spec_l01Shape.bd : Code := bodyOf Go.Proofs.Try.f68

noncomputable def spec_l01Shape.fin {ρ : Type} (N : Nat) (K : AV → Heap → Option ρ) : XE → St → Option ρ := finK (E11 N) Go.Proofs.Try.f68 [] K

theorem spec_l01Shape.eq {ρ : Type} (N : Nat) (K : AV → Heap → Option ρ) (a0 : Nat → Int) (a1 : Nat → Int) :
    xbody (E11 N) ents spec_l01Shape.kp N Go.Proofs.Try.f68 spec_l01Shape.bd [.agg [⟨.i64, 2, a0⟩, ⟨.u8, 520, a1⟩]] [] K = (spec_l01Shape N (fun d0 => K (.bool (d0)) []) a0 a1) := by kernel_rfl

noncomputable def spec_l01Shape.en (N : Nat) (ρ : Type) : List AV → Heap → (AV → Heap → Option ρ) → Option ρ
  | [.agg [⟨.i64, 2, a0⟩, ⟨.u8, 520, a1⟩]], [], K => (spec_l01Shape N (fun d0 => K (.bool (d0)) []) a0 a1)
  | _, _, _ => none

theorem spec_l01Shape.en_ok (N : Nat) (hE : EnvOk (E11 N) ents) (ρ : Type) (args : List AV) (sh : Heap) (K : AV → Heap → Option ρ) (r : ρ) (h : spec_l01Shape.en N ρ args sh K = some r) : ∃ v sh', K v sh' = some r ∧ FnOk (E11 N).P 68 args sh v sh' := by
  unfold spec_l01Shape.en at h
  split at h
  · exact fn_ok hE (kp := spec_l01Shape.kp) (N := N) Go.Proofs.Try.func68 (c := spec_l01Shape.bd) (by kernel_rfl) ((spec_l01Shape.eq N _ _ _).trans h)
  · cases h

noncomputable def E12 (N : Nat) : Env := (E11 N).add 68 (spec_l01Shape.en N)

theorem E12_ok (N : Nat) : EnvOk (E12 N) ents := Env.add_ok (E11_ok N) (spec_l01Shape.en_ok N (E11_ok N))

noncomputable def spec_l03Shape.kp : Keeps := ⟨[], []⟩

noncomputable def spec_l03Shape.bd : Code := bodyOf Go.Proofs.Try.f34

noncomputable def spec_l03Shape.fin {ρ : Type} (N : Nat) (K : AV → Heap → Option ρ) : XE → St → Option ρ := finK (E12 N) Go.Proofs.Try.f34 [] K

theorem spec_l03Shape.eq {ρ : Type} (N : Nat) (K : AV → Heap → Option ρ) (h0 : Nat → Int) (h1 : Nat → Int) :
    xbody (E12 N) ents spec_l03Shape.kp N Go.Proofs.Try.f34 spec_l03Shape.bd [.agg [⟨.i64, 2, h0⟩, ⟨.u8, 1104, h1⟩]] [] K = (spec_l03Shape N (fun d0 => K (.bool (d0)) []) h0 h1) := by kernel_rfl

noncomputable def spec_l03Shape.en (N : Nat) (ρ : Type) : List AV → Heap → (AV → Heap → Option ρ) → Option ρ
  | [.agg [⟨.i64, 2, h0⟩, ⟨.u8, 1104, h1⟩]], [], K => (spec_l03Shape N (fun d0 => K (.bool (d0)) []) h0 h1)
  | _, _, _ => none

theorem spec_l03Shape.en_ok (N : Nat) (hE : EnvOk (E12 N) ents) (ρ : Type) (args : List AV) (sh : Heap) (K : AV → Heap → Option ρ) (r : ρ) (h : spec_l03Shape.en N ρ args sh K = some r) : ∃ v sh', K v sh' = some r ∧ FnOk (E12 N).P 34 args sh v sh' := by
  unfold spec_l03Shape.en at h
  split at h
  · exact fn_ok hE (kp := spec_l03Shape.kp) (N := N) Go.Proofs.Try.func34 (c := spec_l03Shape.bd) (by kernel_rfl) ((spec_l03Shape.eq N _ _ _).trans h)
  · cases h

noncomputable def E13 (N : Nat) : Env := (E12 N).add 34 (spec_l03Shape.en N)

theorem E13_ok (N : Nat) : EnvOk (E13 N) ents := Env.add_ok (E12_ok N) (spec_l03Shape.en_ok N (E12_ok N))

noncomputable def spec_l01Basis.kp : Keeps := ⟨[], []⟩

noncomputable def spec_l01Basis.bd : Code := bodyOf Go.Proofs.Try.f42

noncomputable def spec_l01Basis.fin {ρ : Type} (N : Nat) (K : AV → Heap → Option ρ) : XE → St → Option ρ := finK (E13 N) Go.Proofs.Try.f42 [] K

theorem spec_l01Basis.eq {ρ : Type} (N : Nat) (K : AV → Heap → Option ρ) (i0 : Int) :
    xbody (E13 N) ents spec_l01Basis.kp N Go.Proofs.Try.f42 spec_l01Basis.bd [.int .i64 (i0)] [] K = (spec_l01Basis N (fun d0 => K (.agg [⟨.u8, 8, d0⟩]) []) i0) := by kernel_rfl

noncomputable def spec_l01Basis.en (N : Nat) (ρ : Type) : List AV → Heap → (AV → Heap → Option ρ) → Option ρ
  | [.int .i64 (i0)], [], K => (spec_l01Basis N (fun d0 => K (.agg [⟨.u8, 8, d0⟩]) []) i0)
  | _, _, _ => none

theorem spec_l01Basis.en_ok (N : Nat) (hE : EnvOk (E13 N) ents) (ρ : Type) (args : List AV) (sh : Heap) (K : AV → Heap → Option ρ) (r : ρ) (h : spec_l01Basis.en N ρ args sh K = some r) : ∃ v sh', K v sh' = some r ∧ FnOk (E13 N).P 42 args sh v sh' := by
  unfold spec_l01Basis.en at h
  split at h
  · exact fn_ok hE (kp := spec_l01Basis.kp) (N := N) Go.Proofs.Try.func42 (c := spec_l01Basis.bd) (by kernel_rfl) ((spec_l01Basis.eq N _ _).trans h)
  · cases h

noncomputable def E14 (N : Nat) : Env := (E13 N).add 42 (spec_l01Basis.en N)

theorem E14_ok (N : Nat) : EnvOk (E14 N) ents := Env.add_ok (E13_ok N) (spec_l01Basis.en_ok N (E13_ok N))

noncomputable def spec_l01Mod.kp : Keeps := ⟨[], []⟩

noncomputable def spec_l01Mod.bd : Code := bodyOf Go.Proofs.Try.f77

noncomputable def spec_l01Mod.fin {ρ : Type} (N : Nat) (K : AV → Heap → Option ρ) : XE → St → Option ρ := finK (E14 N) Go.Proofs.Try.f77 [] K

theorem spec_l01Mod.eq {ρ : Type} (N : Nat) (K : AV → Heap → Option ρ) (p0 : Int) (x1 : Int) :
    xbody (E14 N) ents spec_l01Mod.kp N Go.Proofs.Try.f77 spec_l01Mod.bd [.int .i64 (p0), .int .i64 (x1)] [] K = (spec_l01Mod N (fun d0 => K (.int .u8 (d0)) []) p0 x1) := by kernel_rfl

noncomputable def spec_l01Mod.en (N : Nat) (ρ : Type) : List AV → Heap → (AV → Heap → Option ρ) → Option ρ
  | [.int .i64 (p0), .int .i64 (x1)], [], K => (spec_l01Mod N (fun d0 => K (.int .u8 (d0)) []) p0 x1)
  | _, _, _ => none

theorem spec_l01Mod.en_ok (N : Nat) (hE : EnvOk (E14 N) ents) (ρ : Type) (args : List AV) (sh : Heap) (K : AV → Heap → Option ρ) (r : ρ) (h : spec_l01Mod.en N ρ args sh K = some r) : ∃ v sh', K v sh' = some r ∧ FnOk (E14 N).P 77 args sh v sh' := by
  unfold spec_l01Mod.en at h
  split at h
  · exact fn_ok hE (kp := spec_l01Mod.kp) (N := N) Go.Proofs.Try.func77 (c := spec_l01Mod.bd) (by kernel_rfl) ((spec_l01Mod.eq N _ _ _).trans h)
  · cases h

noncomputable def E15 (N : Nat) : Env := (E14 N).add 77 (spec_l01Mod.en N)

theorem E15_ok (N : Nat) : EnvOk (E15 N) ents := Env.add_ok (E14_ok N) (spec_l01Mod.en_ok N (E14_ok N))

noncomputable def spec_l01Add.kp : Keeps := ⟨[(0, [0, 3, 5, 6, 8, 9], 3)], [(0, [5, 8], 3)]⟩

noncomputable def spec_l01Add.bd : Code := bodyOf Go.Proofs.Try.f43

noncomputable def spec_l01Add.fin {ρ : Type} (N : Nat) (K : AV → Heap → Option ρ) : XE → St → Option ρ := finK (E15 N) Go.Proofs.Try.f43 [] K

noncomputable def spec_l01Add.k0 {ρ : Type} (N : Nat) (K : AV → Heap → Option ρ) : XE → St → Option ρ := (blockK spec_l01Add.kp 0 0 (seqK (xcode (E15 N) ents spec_l01Add.kp 0 N (cB (cB spec_l01Add.bd)) 0) (spec_l01Add.fin N K)))

theorem spec_l01Add.k0_mix {ρ : Type} (N : Nat) (K : AV → Heap → Option ρ) : mixK (spec_l01Add.fin N K .ret) (spec_l01Add.k0 N K) = (spec_l01Add.k0 N K) := by
  funext e s; cases e <;> rfl

noncomputable def spec_l01Add.st0 (p0 : Int) (w2 : Nat → Int) (k3 : Int) (i4 : Int) (g5 : Nat → Int) : St := ⟨sl 30 [(0, .int .i64 (p0)), (3, .int .i64 (k3)), (5, .sptr [(0, 8)]), (6, .sptr [(1, 8)]), (8, .sptr [(2, 8)]), (9, .int .i64 (i4))], [⟨true, .ints .u8 8 g5⟩, ⟨true, .ints .u8 8 w2⟩, ⟨true, .ints .u8 8 (fun _ => 0)⟩]⟩

noncomputable def spec_l01Add.sx0_0 (w2 : Nat → Int) (o7 : Nat → Int) : St := ⟨sl 30 [(5, .sptr [(0, 8)]), (8, .sptr [(2, 8)])], [⟨true, .ints .u8 8 o7⟩, ⟨true, .ints .u8 8 w2⟩, ⟨true, .ints .u8 8 (fun _ => 0)⟩]⟩

theorem spec_l01Add.b0_gen {ρ : Type} (N : Nat) (K : AV → Heap → Option ρ) (L0 : St → Option ρ) (kv : XE → St → Option ρ) (p0 : Int) (w2 : Nat → Int) (k3 : Int) (i4 : Int) (g5 : Nat → Int) :
    xcode (E15 N) ents spec_l01Add.kp 0 N (cL (cK (cB (cA (cB spec_l01Add.bd))))) 0 (spec_l01Add.st0 p0 w2 k3 i4 g5) (roundK spec_l01Add.kp 0 0 L0 (mixK (spec_l01Add.fin N K .ret) kv)) = (spec_l01Add.b0 N (fun d0 => K (.agg [⟨.u8, 8, d0⟩]) []) (fun i4 g5 => L0 (spec_l01Add.st0 p0 w2 k3 i4 g5)) (fun o7 => kv (.exit 0) (spec_l01Add.sx0_0 w2 o7)) p0 w2 k3 i4 g5) := by kernel_rfl

theorem spec_l01Add.b0_eq {ρ : Type} (N : Nat) (K : AV → Heap → Option ρ) (L0 : St → Option ρ) (p0 : Int) (w2 : Nat → Int) (k3 : Int) (i4 : Int) (g5 : Nat → Int) :
    xcode (E15 N) ents spec_l01Add.kp 0 N (cL (cK (cB (cA (cB spec_l01Add.bd))))) 0 (spec_l01Add.st0 p0 w2 k3 i4 g5) (roundK spec_l01Add.kp 0 0 L0 (spec_l01Add.k0 N K)) = (spec_l01Add.b0 N (fun d0 => K (.agg [⟨.u8, 8, d0⟩]) []) (fun i4 g5 => L0 (spec_l01Add.st0 p0 w2 k3 i4 g5)) (fun o7 => (spec_l01Add.k0 N K) (.exit 0) (spec_l01Add.sx0_0 w2 o7)) p0 w2 k3 i4 g5) := by
  have h := spec_l01Add.b0_gen N K L0 (spec_l01Add.k0 N K) p0 w2 k3 i4 g5
  rw [spec_l01Add.k0_mix] at h
  exact h

theorem spec_l01Add.a0_0_eq {ρ : Type} (N : Nat) (K : AV → Heap → Option ρ) (w2 : Nat → Int) (o7 : Nat → Int) :
    (spec_l01Add.k0 N K) (.exit 0) (spec_l01Add.sx0_0 w2 o7) = (spec_l01Add.a0_0 N (fun d0 => K (.agg [⟨.u8, 8, d0⟩]) []) o7) := by kernel_rfl

theorem spec_l01Add.l0_eq {ρ : Type} (N : Nat) (K : AV → Heap → Option ρ) (p0 : Int) (w2 : Nat → Int) (k3 : Int) :
    ∀ (m : Nat) (i4 : Int) (g5 : Nat → Int), xloop (xcode (E15 N) ents spec_l01Add.kp 0 N (cL (cK (cB (cA (cB spec_l01Add.bd))))) 0) spec_l01Add.kp 0 0 m (spec_l01Add.st0 p0 w2 k3 i4 g5) (spec_l01Add.k0 N K) = (spec_l01Add.l0 N (fun d0 => K (.agg [⟨.u8, 8, d0⟩]) []) p0 w2 k3 (fun o7 => (spec_l01Add.k0 N K) (.exit 0) (spec_l01Add.sx0_0 w2 o7)) m i4 g5) := by
  intro m
  induction m with
  | zero => intros; rfl
  | succ m ih =>
    intro i4 g5
    refine (spec_l01Add.b0_eq N K (fun s => xloop (xcode (E15 N) ents spec_l01Add.kp 0 N (cL (cK (cB (cA (cB spec_l01Add.bd))))) 0) spec_l01Add.kp 0 0 m s (spec_l01Add.k0 N K)) p0 w2 k3 i4 g5).trans ?_
    simp only [ih]
    kernel_rfl

theorem spec_l01Add.s_eq {ρ : Type} (N : Nat) (K : AV → Heap → Option ρ) (p0 : Int) (v1 : Nat → Int) (w2 : Nat → Int) (k3 : Int) :
    xbody (E15 N) ents spec_l01Add.kp N Go.Proofs.Try.f43 spec_l01Add.bd [.int .i64 (p0), .agg [⟨.u8, 8, v1⟩], .agg [⟨.u8, 8, w2⟩], .int .i64 (k3)] [] K = (spec_l01Add.s N (fun d0 => K (.agg [⟨.u8, 8, d0⟩]) []) (fun i4 g5 => xloop (xcode (E15 N) ents spec_l01Add.kp 0 N (cL (cK (cB (cA (cB spec_l01Add.bd))))) 0) spec_l01Add.kp 0 0 N (spec_l01Add.st0 p0 w2 k3 i4 g5) (spec_l01Add.k0 N K)) v1) := by kernel_rfl

theorem spec_l01Add.eq {ρ : Type} (N : Nat) (K : AV → Heap → Option ρ) (p0 : Int) (v1 : Nat → Int) (w2 : Nat → Int) (k3 : Int) :
    xbody (E15 N) ents spec_l01Add.kp N Go.Proofs.Try.f43 spec_l01Add.bd [.int .i64 (p0), .agg [⟨.u8, 8, v1⟩], .agg [⟨.u8, 8, w2⟩], .int .i64 (k3)] [] K = (spec_l01Add N (fun d0 => K (.agg [⟨.u8, 8, d0⟩]) []) p0 v1 w2 k3) := by
  refine (spec_l01Add.s_eq N K p0 v1 w2 k3).trans ?_
  simp only [spec_l01Add.l0_eq, spec_l01Add.a0_0_eq]
  kernel_rfl

noncomputable def spec_l01Add.en (N : Nat) (ρ : Type) : List AV → Heap → (AV → Heap → Option ρ) → Option ρ
  | [.int .i64 (p0), .agg [⟨.u8, 8, v1⟩], .agg [⟨.u8, 8, w2⟩], .int .i64 (k3)], [], K => (spec_l01Add N (fun d0 => K (.agg [⟨.u8, 8, d0⟩]) []) p0 v1 w2 k3)
  | _, _, _ => none

theorem spec_l01Add.en_ok (N : Nat) (hE : EnvOk (E15 N) ents) (ρ : Type) (args : List AV) (sh : Heap) (K : AV → Heap → Option ρ) (r : ρ) (h : spec_l01Add.en N ρ args sh K = some r) : ∃ v sh', K v sh' = some r ∧ FnOk (E15 N).P 43 args sh v sh' := by
  unfold spec_l01Add.en at h
  split at h
  · exact fn_ok hE (kp := spec_l01Add.kp) (N := N) Go.Proofs.Try.func43 (c := spec_l01Add.bd) (by kernel_rfl) ((spec_l01Add.eq N _ _ _ _ _).trans h)
  · cases h

noncomputable def E16 (N : Nat) : Env := (E15 N).add 43 (spec_l01Add.en N)

theorem E16_ok (N : Nat) : EnvOk (E16 N) ents := Env.add_ok (E15_ok N) (spec_l01Add.en_ok N (E15_ok N))

noncomputable def spec_l01Apply.kp : Keeps := ⟨[(0, [0, 1, 6, 7, 8, 9, 10], 4)], [(0, [8, 9], 4)]⟩

noncomputable def spec_l01Apply.bd : Code := bodyOf Go.Proofs.Try.f50

noncomputable def spec_l01Apply.fin {ρ : Type} (N : Nat) (K : AV → Heap → Option ρ) : XE → St → Option ρ := finK (E16 N) Go.Proofs.Try.f50 [] K

noncomputable def spec_l01Apply.k0 {ρ : Type} (N : Nat) (K : AV → Heap → Option ρ) : XE → St → Option ρ := (blockK spec_l01Apply.kp 0 0 (seqK (xcode (E16 N) ents spec_l01Apply.kp 0 N (cB (cB (cB spec_l01Apply.bd))) 0) (spec_l01Apply.fin N K)))

theorem spec_l01Apply.k0_mix {ρ : Type} (N : Nat) (K : AV → Heap → Option ρ) : mixK (spec_l01Apply.fin N K .ret) (spec_l01Apply.k0 N K) = (spec_l01Apply.k0 N K) := by
  funext e s; cases e <;> rfl

noncomputable def spec_l01Apply.st0 (p0 : Int) (n1 : Int) (f2 : Nat → Int) (v3 : Nat → Int) (i4 : Int) (g5 : Nat → Int) : St := ⟨sl 32 [(0, .int .i64 (p0)), (1, .int .i64 (n1)), (6, .sptr [(0, 64)]), (7, .sptr [(1, 8)]), (8, .sptr [(2, 8)]), (9, .sptr [(3, 8)]), (10, .int .i64 (i4))], [⟨true, .ints .u8 64 f2⟩, ⟨true, .ints .u8 8 v3⟩, ⟨true, .ints .u8 8 (fun _ => 0)⟩, ⟨true, .ints .u8 8 g5⟩]⟩

noncomputable def spec_l01Apply.sx0_0 (f2 : Nat → Int) (v3 : Nat → Int) (o7 : Nat → Int) : St := ⟨sl 32 [(8, .sptr [(2, 8)]), (9, .sptr [(3, 8)])], [⟨true, .ints .u8 64 f2⟩, ⟨true, .ints .u8 8 v3⟩, ⟨true, .ints .u8 8 (fun _ => 0)⟩, ⟨true, .ints .u8 8 o7⟩]⟩

theorem spec_l01Apply.b0_gen {ρ : Type} (N : Nat) (K : AV → Heap → Option ρ) (L0 : St → Option ρ) (kv : XE → St → Option ρ) (p0 : Int) (n1 : Int) (f2 : Nat → Int) (v3 : Nat → Int) (i4 : Int) (g5 : Nat → Int) :
    xcode (E16 N) ents spec_l01Apply.kp 0 N (cL (cK (cB (cA (cB (cB spec_l01Apply.bd)))))) 0 (spec_l01Apply.st0 p0 n1 f2 v3 i4 g5) (roundK spec_l01Apply.kp 0 0 L0 (mixK (spec_l01Apply.fin N K .ret) kv)) = (spec_l01Apply.b0 N (fun d0 => K (.agg [⟨.u8, 8, d0⟩]) []) (fun i4 g5 => L0 (spec_l01Apply.st0 p0 n1 f2 v3 i4 g5)) (fun o7 => kv (.exit 0) (spec_l01Apply.sx0_0 f2 v3 o7)) p0 n1 f2 v3 i4 g5) := by kernel_rfl

theorem spec_l01Apply.b0_eq {ρ : Type} (N : Nat) (K : AV → Heap → Option ρ) (L0 : St → Option ρ) (p0 : Int) (n1 : Int) (f2 : Nat → Int) (v3 : Nat → Int) (i4 : Int) (g5 : Nat → Int) :
    xcode (E16 N) ents spec_l01Apply.kp 0 N (cL (cK (cB (cA (cB (cB spec_l01Apply.bd)))))) 0 (spec_l01Apply.st0 p0 n1 f2 v3 i4 g5) (roundK spec_l01Apply.kp 0 0 L0 (spec_l01Apply.k0 N K)) = (spec_l01Apply.b0 N (fun d0 => K (.agg [⟨.u8, 8, d0⟩]) []) (fun i4 g5 => L0 (spec_l01Apply.st0 p0 n1 f2 v3 i4 g5)) (fun o7 => (spec_l01Apply.k0 N K) (.exit 0) (spec_l01Apply.sx0_0 f2 v3 o7)) p0 n1 f2 v3 i4 g5) := by
  have h := spec_l01Apply.b0_gen N K L0 (spec_l01Apply.k0 N K) p0 n1 f2 v3 i4 g5
  rw [spec_l01Apply.k0_mix] at h
  exact h

theorem spec_l01Apply.a0_0_eq {ρ : Type} (N : Nat) (K : AV → Heap → Option ρ) (f2 : Nat → Int) (v3 : Nat → Int) (o7 : Nat → Int) :
    (spec_l01Apply.k0 N K) (.exit 0) (spec_l01Apply.sx0_0 f2 v3 o7) = (spec_l01Apply.a0_0 N (fun d0 => K (.agg [⟨.u8, 8, d0⟩]) []) o7) := by kernel_rfl

theorem spec_l01Apply.l0_eq {ρ : Type} (N : Nat) (K : AV → Heap → Option ρ) (p0 : Int) (n1 : Int) (f2 : Nat → Int) (v3 : Nat → Int) :
    ∀ (m : Nat) (i4 : Int) (g5 : Nat → Int), xloop (xcode (E16 N) ents spec_l01Apply.kp 0 N (cL (cK (cB (cA (cB (cB spec_l01Apply.bd)))))) 0) spec_l01Apply.kp 0 0 m (spec_l01Apply.st0 p0 n1 f2 v3 i4 g5) (spec_l01Apply.k0 N K) = (spec_l01Apply.l0 N (fun d0 => K (.agg [⟨.u8, 8, d0⟩]) []) p0 n1 f2 v3 (fun o7 => (spec_l01Apply.k0 N K) (.exit 0) (spec_l01Apply.sx0_0 f2 v3 o7)) m i4 g5) := by
  intro m
  induction m with
  | zero => intros; rfl
  | succ m ih =>
    intro i4 g5
    refine (spec_l01Apply.b0_eq N K (fun s => xloop (xcode (E16 N) ents spec_l01Apply.kp 0 N (cL (cK (cB (cA (cB (cB spec_l01Apply.bd)))))) 0) spec_l01Apply.kp 0 0 m s (spec_l01Apply.k0 N K)) p0 n1 f2 v3 i4 g5).trans ?_
    simp only [ih]
    kernel_rfl

theorem spec_l01Apply.s_eq {ρ : Type} (N : Nat) (K : AV → Heap → Option ρ) (p0 : Int) (n1 : Int) (f2 : Nat → Int) (v3 : Nat → Int) :
    xbody (E16 N) ents spec_l01Apply.kp N Go.Proofs.Try.f50 spec_l01Apply.bd [.int .i64 (p0), .int .i64 (n1), .agg [⟨.u8, 64, f2⟩], .agg [⟨.u8, 8, v3⟩]] [] K = (spec_l01Apply.s N (fun d0 => K (.agg [⟨.u8, 8, d0⟩]) []) (fun i4 g5 => xloop (xcode (E16 N) ents spec_l01Apply.kp 0 N (cL (cK (cB (cA (cB (cB spec_l01Apply.bd)))))) 0) spec_l01Apply.kp 0 0 N (spec_l01Apply.st0 p0 n1 f2 v3 i4 g5) (spec_l01Apply.k0 N K))) := by kernel_rfl

theorem spec_l01Apply.eq {ρ : Type} (N : Nat) (K : AV → Heap → Option ρ) (p0 : Int) (n1 : Int) (f2 : Nat → Int) (v3 : Nat → Int) :
    xbody (E16 N) ents spec_l01Apply.kp N Go.Proofs.Try.f50 spec_l01Apply.bd [.int .i64 (p0), .int .i64 (n1), .agg [⟨.u8, 64, f2⟩], .agg [⟨.u8, 8, v3⟩]] [] K = (spec_l01Apply N (fun d0 => K (.agg [⟨.u8, 8, d0⟩]) []) p0 n1 f2 v3) := by
  refine (spec_l01Apply.s_eq N K p0 n1 f2 v3).trans ?_
  simp only [spec_l01Apply.l0_eq, spec_l01Apply.a0_0_eq]
  kernel_rfl

noncomputable def spec_l01Apply.en (N : Nat) (ρ : Type) : List AV → Heap → (AV → Heap → Option ρ) → Option ρ
  | [.int .i64 (p0), .int .i64 (n1), .agg [⟨.u8, 64, f2⟩], .agg [⟨.u8, 8, v3⟩]], [], K => (spec_l01Apply N (fun d0 => K (.agg [⟨.u8, 8, d0⟩]) []) p0 n1 f2 v3)
  | _, _, _ => none

theorem spec_l01Apply.en_ok (N : Nat) (hE : EnvOk (E16 N) ents) (ρ : Type) (args : List AV) (sh : Heap) (K : AV → Heap → Option ρ) (r : ρ) (h : spec_l01Apply.en N ρ args sh K = some r) : ∃ v sh', K v sh' = some r ∧ FnOk (E16 N).P 50 args sh v sh' := by
  unfold spec_l01Apply.en at h
  split at h
  · exact fn_ok hE (kp := spec_l01Apply.kp) (N := N) Go.Proofs.Try.func50 (c := spec_l01Apply.bd) (by kernel_rfl) ((spec_l01Apply.eq N _ _ _ _ _).trans h)
  · cases h

noncomputable def E17 (N : Nat) : Env := (E16 N).add 50 (spec_l01Apply.en N)

theorem E17_ok (N : Nat) : EnvOk (E17 N) ents := Env.add_ok (E16_ok N) (spec_l01Apply.en_ok N (E16_ok N))

noncomputable def spec_l01Times.kp : Keeps := ⟨[(0, [3, 4, 5, 6, 7, 8], 6)], [(0, [6, 7], 6)]⟩

noncomputable def spec_l01Times.bd : Code := bodyOf Go.Proofs.Try.f40

noncomputable def spec_l01Times.fin {ρ : Type} (N : Nat) (K : AV → Heap → Option ρ) : XE → St → Option ρ := finK (E17 N) Go.Proofs.Try.f40 [] K

noncomputable def spec_l01Times.k0 {ρ : Type} (N : Nat) (K : AV → Heap → Option ρ) : XE → St → Option ρ := (blockK spec_l01Times.kp 0 0 (seqK (xcode (E17 N) ents spec_l01Times.kp 0 N (cB (cB (cB spec_l01Times.bd))) 0) (spec_l01Times.fin N K)))

theorem spec_l01Times.k0_mix {ρ : Type} (N : Nat) (K : AV → Heap → Option ρ) : mixK (spec_l01Times.fin N K .ret) (spec_l01Times.k0 N K) = (spec_l01Times.k0 N K) := by
  funext e s; cases e <;> rfl

noncomputable def spec_l01Times.st0 (a0 : Nat → Int) (a1 : Nat → Int) (v2 : Nat → Int) (w3 : Nat → Int) (i4 : Int) (g5 : Nat → Int) : St := ⟨sl 39 [(3, .sptr [(0, 2), (1, 520)]), (4, .sptr [(2, 8)]), (5, .sptr [(3, 8)]), (6, .sptr [(4, 8)]), (7, .sptr [(5, 8)]), (8, .int .i64 (i4))], [⟨true, .ints .i64 2 a0⟩, ⟨true, .ints .u8 520 a1⟩, ⟨true, .ints .u8 8 v2⟩, ⟨true, .ints .u8 8 w3⟩, ⟨true, .ints .u8 8 (fun _ => 0)⟩, ⟨true, .ints .u8 8 g5⟩]⟩

noncomputable def spec_l01Times.sx0_0 (a0 : Nat → Int) (a1 : Nat → Int) (v2 : Nat → Int) (w3 : Nat → Int) (o8 : Nat → Int) : St := ⟨sl 39 [(6, .sptr [(4, 8)]), (7, .sptr [(5, 8)])], [⟨true, .ints .i64 2 a0⟩, ⟨true, .ints .u8 520 a1⟩, ⟨true, .ints .u8 8 v2⟩, ⟨true, .ints .u8 8 w3⟩, ⟨true, .ints .u8 8 (fun _ => 0)⟩, ⟨true, .ints .u8 8 o8⟩]⟩

theorem spec_l01Times.b0_gen {ρ : Type} (N : Nat) (K : AV → Heap → Option ρ) (L0 : St → Option ρ) (kv : XE → St → Option ρ) (a0 : Nat → Int) (a1 : Nat → Int) (v2 : Nat → Int) (w3 : Nat → Int) (i4 : Int) (g5 : Nat → Int) :
    xcode (E17 N) ents spec_l01Times.kp 0 N (cL (cK (cB (cA (cB (cB spec_l01Times.bd)))))) 0 (spec_l01Times.st0 a0 a1 v2 w3 i4 g5) (roundK spec_l01Times.kp 0 0 L0 (mixK (spec_l01Times.fin N K .ret) kv)) = (spec_l01Times.b0 N (fun d0 => K (.agg [⟨.u8, 8, d0⟩]) []) (fun i4 g5 => L0 (spec_l01Times.st0 a0 a1 v2 w3 i4 g5)) (fun o8 => kv (.exit 0) (spec_l01Times.sx0_0 a0 a1 v2 w3 o8)) a0 a1 v2 w3 i4 g5) := by kernel_rfl

theorem spec_l01Times.b0_eq {ρ : Type} (N : Nat) (K : AV → Heap → Option ρ) (L0 : St → Option ρ) (a0 : Nat → Int) (a1 : Nat → Int) (v2 : Nat → Int) (w3 : Nat → Int) (i4 : Int) (g5 : Nat → Int) :
    xcode (E17 N) ents spec_l01Times.kp 0 N (cL (cK (cB (cA (cB (cB spec_l01Times.bd)))))) 0 (spec_l01Times.st0 a0 a1 v2 w3 i4 g5) (roundK spec_l01Times.kp 0 0 L0 (spec_l01Times.k0 N K)) = (spec_l01Times.b0 N (fun d0 => K (.agg [⟨.u8, 8, d0⟩]) []) (fun i4 g5 => L0 (spec_l01Times.st0 a0 a1 v2 w3 i4 g5)) (fun o8 => (spec_l01Times.k0 N K) (.exit 0) (spec_l01Times.sx0_0 a0 a1 v2 w3 o8)) a0 a1 v2 w3 i4 g5) := by
  have h := spec_l01Times.b0_gen N K L0 (spec_l01Times.k0 N K) a0 a1 v2 w3 i4 g5
  rw [spec_l01Times.k0_mix] at h
  exact h

theorem spec_l01Times.a0_0_eq {ρ : Type} (N : Nat) (K : AV → Heap → Option ρ) (a0 : Nat → Int) (a1 : Nat → Int) (v2 : Nat → Int) (w3 : Nat → Int) (o8 : Nat → Int) :
    (spec_l01Times.k0 N K) (.exit 0) (spec_l01Times.sx0_0 a0 a1 v2 w3 o8) = (spec_l01Times.a0_0 N (fun d0 => K (.agg [⟨.u8, 8, d0⟩]) []) o8) := by kernel_rfl

theorem spec_l01Times.l0_eq {ρ : Type} (N : Nat) (K : AV → Heap → Option ρ) (a0 : Nat → Int) (a1 : Nat → Int) (v2 : Nat → Int) (w3 : Nat → Int) :
    ∀ (m : Nat) (i4 : Int) (g5 : Nat → Int), xloop (xcode (E17 N) ents spec_l01Times.kp 0 N (cL (cK (cB (cA (cB (cB spec_l01Times.bd)))))) 0) spec_l01Times.kp 0 0 m (spec_l01Times.st0 a0 a1 v2 w3 i4 g5) (spec_l01Times.k0 N K) = (spec_l01Times.l0 N (fun d0 => K (.agg [⟨.u8, 8, d0⟩]) []) a0 a1 v2 w3 (fun o8 => (spec_l01Times.k0 N K) (.exit 0) (spec_l01Times.sx0_0 a0 a1 v2 w3 o8)) m i4 g5) := by
  intro m
  induction m with
  | zero => intros; rfl
  | succ m ih =>
    intro i4 g5
    refine (spec_l01Times.b0_eq N K (fun s => xloop (xcode (E17 N) ents spec_l01Times.kp 0 N (cL (cK (cB (cA (cB (cB spec_l01Times.bd)))))) 0) spec_l01Times.kp 0 0 m s (spec_l01Times.k0 N K)) a0 a1 v2 w3 i4 g5).trans ?_
    simp only [ih]
    kernel_rfl

theorem spec_l01Times.s_eq {ρ : Type} (N : Nat) (K : AV → Heap → Option ρ) (a0 : Nat → Int) (a1 : Nat → Int) (v2 : Nat → Int) (w3 : Nat → Int) :
    xbody (E17 N) ents spec_l01Times.kp N Go.Proofs.Try.f40 spec_l01Times.bd [.agg [⟨.i64, 2, a0⟩, ⟨.u8, 520, a1⟩], .agg [⟨.u8, 8, v2⟩], .agg [⟨.u8, 8, w3⟩]] [] K = (spec_l01Times.s N (fun d0 => K (.agg [⟨.u8, 8, d0⟩]) []) (fun i4 g5 => xloop (xcode (E17 N) ents spec_l01Times.kp 0 N (cL (cK (cB (cA (cB (cB spec_l01Times.bd)))))) 0) spec_l01Times.kp 0 0 N (spec_l01Times.st0 a0 a1 v2 w3 i4 g5) (spec_l01Times.k0 N K))) := by kernel_rfl

theorem spec_l01Times.eq {ρ : Type} (N : Nat) (K : AV → Heap → Option ρ) (a0 : Nat → Int) (a1 : Nat → Int) (v2 : Nat → Int) (w3 : Nat → Int) :
    xbody (E17 N) ents spec_l01Times.kp N Go.Proofs.Try.f40 spec_l01Times.bd [.agg [⟨.i64, 2, a0⟩, ⟨.u8, 520, a1⟩], .agg [⟨.u8, 8, v2⟩], .agg [⟨.u8, 8, w3⟩]] [] K = (spec_l01Times N (fun d0 => K (.agg [⟨.u8, 8, d0⟩]) []) a0 a1 v2 w3) := by
  refine (spec_l01Times.s_eq N K a0 a1 v2 w3).trans ?_
  simp only [spec_l01Times.l0_eq, spec_l01Times.a0_0_eq]
  kernel_rfl

noncomputable def spec_l01Times.en (N : Nat) (ρ : Type) : List AV → Heap → (AV → Heap → Option ρ) → Option ρ
  | [.agg [⟨.i64, 2, a0⟩, ⟨.u8, 520, a1⟩], .agg [⟨.u8, 8, v2⟩], .agg [⟨.u8, 8, w3⟩]], [], K => (spec_l01Times N (fun d0 => K (.agg [⟨.u8, 8, d0⟩]) []) a0 a1 v2 w3)
  | _, _, _ => none

theorem spec_l01Times.en_ok (N : Nat) (hE : EnvOk (E17 N) ents) (ρ : Type) (args : List AV) (sh : Heap) (K : AV → Heap → Option ρ) (r : ρ) (h : spec_l01Times.en N ρ args sh K = some r) : ∃ v sh', K v sh' = some r ∧ FnOk (E17 N).P 40 args sh v sh' := by
  unfold spec_l01Times.en at h
  split at h
  · exact fn_ok hE (kp := spec_l01Times.kp) (N := N) Go.Proofs.Try.func40 (c := spec_l01Times.bd) (by kernel_rfl) ((spec_l01Times.eq N _ _ _ _ _).trans h)
  · cases h

noncomputable def E18 (N : Nat) : Env := (E17 N).add 40 (spec_l01Times.en N)

theorem E18_ok (N : Nat) : EnvOk (E18 N) ents := Env.add_ok (E17_ok N) (spec_l01Times.en_ok N (E17_ok N))

noncomputable def spec_l01Fault.kp : Keeps := ⟨[(0, [1, 4], 2), (2, [1, 4, 5], 2), (4, [1, 4, 5, 6], 2)], [(0, [], 2), (2, [1, 4], 2), (4, [1, 4, 5], 2)]⟩

noncomputable def spec_l01Fault.bd : Code := bodyOf Go.Proofs.Try.f109

noncomputable def spec_l01Fault.fin {ρ : Type} (N : Nat) (K : AV → Heap → Option ρ) : XE → St → Option ρ := finK (E18 N) Go.Proofs.Try.f109 [] K

noncomputable def spec_l01Fault.k0 {ρ : Type} (N : Nat) (K : AV → Heap → Option ρ) : XE → St → Option ρ := (blockK spec_l01Fault.kp 0 0 (seqK (xcode (E18 N) ents spec_l01Fault.kp 0 N (cB (cB spec_l01Fault.bd)) 0) (spec_l01Fault.fin N K)))

theorem spec_l01Fault.k0_mix {ρ : Type} (N : Nat) (K : AV → Heap → Option ρ) : mixK (spec_l01Fault.fin N K .ret) (spec_l01Fault.k0 N K) = (spec_l01Fault.k0 N K) := by
  funext e s; cases e <;> rfl

noncomputable def spec_l01Fault.st0 (a0 : Nat → Int) (a1 : Nat → Int) (i2 : Int) : St := ⟨sl 50 [(1, .sptr [(0, 2), (1, 520)]), (4, .int .i64 (i2))], [⟨true, .ints .i64 2 a0⟩, ⟨true, .ints .u8 520 a1⟩]⟩

noncomputable def spec_l01Fault.sx0_0 (a0 : Nat → Int) (a1 : Nat → Int) : St := ⟨sl 50 [], [⟨true, .ints .i64 2 a0⟩, ⟨true, .ints .u8 520 a1⟩]⟩

noncomputable def spec_l01Fault.k1g {ρ : Type} (N : Nat) (L0 : St → Option ρ) (kv : XE → St → Option ρ) : XE → St → Option ρ := (blockK spec_l01Fault.kp 0 2 (blockK spec_l01Fault.kp 0 1 (seqK (xcode (E18 N) ents spec_l01Fault.kp 0 N (cB (cB (cL (cK (cB (cA (cB spec_l01Fault.bd))))))) 0) (roundK spec_l01Fault.kp 0 0 L0 kv))))

theorem spec_l01Fault.k1_mix {ρ : Type} (N : Nat) (K : AV → Heap → Option ρ) (L0 : St → Option ρ) : mixK (spec_l01Fault.fin N K .ret) (spec_l01Fault.k1g N L0 (spec_l01Fault.k0 N K)) = (spec_l01Fault.k1g N L0 (spec_l01Fault.k0 N K)) := by
  funext e s; cases e <;> rfl

noncomputable def spec_l01Fault.st1 (a0 : Nat → Int) (a1 : Nat → Int) (i2 : Int) (j3 : Int) : St := ⟨sl 50 [(1, .sptr [(0, 2), (1, 520)]), (4, .int .i64 (i2)), (5, .int .i64 (j3))], [⟨true, .ints .i64 2 a0⟩, ⟨true, .ints .u8 520 a1⟩]⟩

noncomputable def spec_l01Fault.sx1_0 (a0 : Nat → Int) (a1 : Nat → Int) (i2 : Int) : St := ⟨sl 50 [(1, .sptr [(0, 2), (1, 520)]), (4, .int .i64 (i2))], [⟨true, .ints .i64 2 a0⟩, ⟨true, .ints .u8 520 a1⟩]⟩

noncomputable def spec_l01Fault.k2g {ρ : Type} (N : Nat) (L1 : St → Option ρ) (kv : XE → St → Option ρ) : XE → St → Option ρ := (blockK spec_l01Fault.kp 0 4 (blockK spec_l01Fault.kp 0 3 (seqK (xcode (E18 N) ents spec_l01Fault.kp 0 N (cB (cB (cL (cK (cB (cK (cA (cB (cL (cK (cB (cA (cB spec_l01Fault.bd))))))))))))) 2) (roundK spec_l01Fault.kp 0 2 L1 kv))))

theorem spec_l01Fault.k2_mix {ρ : Type} (N : Nat) (K : AV → Heap → Option ρ) (L0 : St → Option ρ) (L1 : St → Option ρ) : mixK (spec_l01Fault.fin N K .ret) (spec_l01Fault.k2g N L1 (spec_l01Fault.k1g N L0 (spec_l01Fault.k0 N K))) = (spec_l01Fault.k2g N L1 (spec_l01Fault.k1g N L0 (spec_l01Fault.k0 N K))) := by
  funext e s; cases e <;> rfl

noncomputable def spec_l01Fault.st2 (a0 : Nat → Int) (a1 : Nat → Int) (i2 : Int) (j3 : Int) (k4 : Int) : St := ⟨sl 50 [(1, .sptr [(0, 2), (1, 520)]), (4, .int .i64 (i2)), (5, .int .i64 (j3)), (6, .int .i64 (k4))], [⟨true, .ints .i64 2 a0⟩, ⟨true, .ints .u8 520 a1⟩]⟩

noncomputable def spec_l01Fault.sx2_0 (a0 : Nat → Int) (a1 : Nat → Int) (i2 : Int) (j3 : Int) : St := ⟨sl 50 [(1, .sptr [(0, 2), (1, 520)]), (4, .int .i64 (i2)), (5, .int .i64 (j3))], [⟨true, .ints .i64 2 a0⟩, ⟨true, .ints .u8 520 a1⟩]⟩

theorem spec_l01Fault.b2_gen {ρ : Type} (N : Nat) (K : AV → Heap → Option ρ) (L2 : St → Option ρ) (kv : XE → St → Option ρ) (a0 : Nat → Int) (a1 : Nat → Int) (i2 : Int) (j3 : Int) (k4 : Int) :
    xcode (E18 N) ents spec_l01Fault.kp 0 N (cL (cK (cB (cK (cA (cB (cL (cK (cB (cK (cA (cB (cL (cK (cB (cA (cB spec_l01Fault.bd))))))))))))))))) 4 (spec_l01Fault.st2 a0 a1 i2 j3 k4) (roundK spec_l01Fault.kp 0 4 L2 (mixK (spec_l01Fault.fin N K .ret) kv)) = (spec_l01Fault.b2 N (fun d0 d1 d2 d3 => K (.tup [.slice 0 0 d0 (some d1) 1, .bool (d2)]) [⟨true, .ints .i64 3 d3⟩]) (fun d0 => K (.tup [.nils, .bool (d0)]) []) (fun k4 => L2 (spec_l01Fault.st2 a0 a1 i2 j3 k4)) (kv (.exit 4) (spec_l01Fault.sx2_0 a0 a1 i2 j3)) a0 a1 i2 j3 k4) := by kernel_rfl

theorem spec_l01Fault.b2_eq {ρ : Type} (N : Nat) (K : AV → Heap → Option ρ) (L0 : St → Option ρ) (L1 : St → Option ρ) (L2 : St → Option ρ) (a0 : Nat → Int) (a1 : Nat → Int) (i2 : Int) (j3 : Int) (k4 : Int) :
    xcode (E18 N) ents spec_l01Fault.kp 0 N (cL (cK (cB (cK (cA (cB (cL (cK (cB (cK (cA (cB (cL (cK (cB (cA (cB spec_l01Fault.bd))))))))))))))))) 4 (spec_l01Fault.st2 a0 a1 i2 j3 k4) (roundK spec_l01Fault.kp 0 4 L2 (spec_l01Fault.k2g N L1 (spec_l01Fault.k1g N L0 (spec_l01Fault.k0 N K)))) = (spec_l01Fault.b2 N (fun d0 d1 d2 d3 => K (.tup [.slice 0 0 d0 (some d1) 1, .bool (d2)]) [⟨true, .ints .i64 3 d3⟩]) (fun d0 => K (.tup [.nils, .bool (d0)]) []) (fun k4 => L2 (spec_l01Fault.st2 a0 a1 i2 j3 k4)) ((spec_l01Fault.k2g N L1 (spec_l01Fault.k1g N L0 (spec_l01Fault.k0 N K))) (.exit 4) (spec_l01Fault.sx2_0 a0 a1 i2 j3)) a0 a1 i2 j3 k4) := by
  have h := spec_l01Fault.b2_gen N K L2 (spec_l01Fault.k2g N L1 (spec_l01Fault.k1g N L0 (spec_l01Fault.k0 N K))) a0 a1 i2 j3 k4
  rw [spec_l01Fault.k2_mix] at h
  exact h

theorem spec_l01Fault.a2_0_gen {ρ : Type} (N : Nat) (K : AV → Heap → Option ρ) (L1 : St → Option ρ) (kv : XE → St → Option ρ) (a0 : Nat → Int) (a1 : Nat → Int) (i2 : Int) (j3 : Int) :
    (spec_l01Fault.k2g N L1 (mixK (spec_l01Fault.fin N K .ret) kv)) (.exit 4) (spec_l01Fault.sx2_0 a0 a1 i2 j3) = (spec_l01Fault.a2_0 N (fun d0 d1 d2 d3 => K (.tup [.slice 0 0 d0 (some d1) 1, .bool (d2)]) [⟨true, .ints .i64 3 d3⟩]) (fun d0 => K (.tup [.nils, .bool (d0)]) []) (fun j3 => L1 (spec_l01Fault.st1 a0 a1 i2 j3)) (kv (.exit 2) (spec_l01Fault.sx1_0 a0 a1 i2)) j3) := by kernel_rfl

theorem spec_l01Fault.a2_0_eq {ρ : Type} (N : Nat) (K : AV → Heap → Option ρ) (L0 : St → Option ρ) (L1 : St → Option ρ) (a0 : Nat → Int) (a1 : Nat → Int) (i2 : Int) (j3 : Int) :
    (spec_l01Fault.k2g N L1 (spec_l01Fault.k1g N L0 (spec_l01Fault.k0 N K))) (.exit 4) (spec_l01Fault.sx2_0 a0 a1 i2 j3) = (spec_l01Fault.a2_0 N (fun d0 d1 d2 d3 => K (.tup [.slice 0 0 d0 (some d1) 1, .bool (d2)]) [⟨true, .ints .i64 3 d3⟩]) (fun d0 => K (.tup [.nils, .bool (d0)]) []) (fun j3 => L1 (spec_l01Fault.st1 a0 a1 i2 j3)) ((spec_l01Fault.k1g N L0 (spec_l01Fault.k0 N K)) (.exit 2) (spec_l01Fault.sx1_0 a0 a1 i2)) j3) := by
  have h := spec_l01Fault.a2_0_gen N K L1 (spec_l01Fault.k1g N L0 (spec_l01Fault.k0 N K)) a0 a1 i2 j3
  rw [spec_l01Fault.k1_mix] at h
  exact h

theorem spec_l01Fault.b1_gen {ρ : Type} (N : Nat) (K : AV → Heap → Option ρ) (L1 : St → Option ρ) (kv : XE → St → Option ρ) (a0 : Nat → Int) (a1 : Nat → Int) (i2 : Int) (j3 : Int) :
    xcode (E18 N) ents spec_l01Fault.kp 0 N (cL (cK (cB (cK (cA (cB (cL (cK (cB (cA (cB spec_l01Fault.bd))))))))))) 2 (spec_l01Fault.st1 a0 a1 i2 j3) (roundK spec_l01Fault.kp 0 2 L1 (mixK (spec_l01Fault.fin N K .ret) kv)) = (spec_l01Fault.b1 N (fun d0 d1 d2 d3 => K (.tup [.slice 0 0 d0 (some d1) 1, .bool (d2)]) [⟨true, .ints .i64 3 d3⟩]) (fun d0 => K (.tup [.nils, .bool (d0)]) []) (fun k4 => xloop (xcode (E18 N) ents spec_l01Fault.kp 0 N (cL (cK (cB (cK (cA (cB (cL (cK (cB (cK (cA (cB (cL (cK (cB (cA (cB spec_l01Fault.bd))))))))))))))))) 4) spec_l01Fault.kp 0 4 N (spec_l01Fault.st2 a0 a1 i2 j3 k4) (spec_l01Fault.k2g N L1 (mixK (spec_l01Fault.fin N K .ret) kv))) (fun j3 => L1 (spec_l01Fault.st1 a0 a1 i2 j3)) (kv (.exit 2) (spec_l01Fault.sx1_0 a0 a1 i2)) a0 j3) := by kernel_rfl

theorem spec_l01Fault.b1_eq {ρ : Type} (N : Nat) (K : AV → Heap → Option ρ) (L0 : St → Option ρ) (L1 : St → Option ρ) (a0 : Nat → Int) (a1 : Nat → Int) (i2 : Int) (j3 : Int) :
    xcode (E18 N) ents spec_l01Fault.kp 0 N (cL (cK (cB (cK (cA (cB (cL (cK (cB (cA (cB spec_l01Fault.bd))))))))))) 2 (spec_l01Fault.st1 a0 a1 i2 j3) (roundK spec_l01Fault.kp 0 2 L1 (spec_l01Fault.k1g N L0 (spec_l01Fault.k0 N K))) = (spec_l01Fault.b1 N (fun d0 d1 d2 d3 => K (.tup [.slice 0 0 d0 (some d1) 1, .bool (d2)]) [⟨true, .ints .i64 3 d3⟩]) (fun d0 => K (.tup [.nils, .bool (d0)]) []) (fun k4 => xloop (xcode (E18 N) ents spec_l01Fault.kp 0 N (cL (cK (cB (cK (cA (cB (cL (cK (cB (cK (cA (cB (cL (cK (cB (cA (cB spec_l01Fault.bd))))))))))))))))) 4) spec_l01Fault.kp 0 4 N (spec_l01Fault.st2 a0 a1 i2 j3 k4) (spec_l01Fault.k2g N L1 (spec_l01Fault.k1g N L0 (spec_l01Fault.k0 N K)))) (fun j3 => L1 (spec_l01Fault.st1 a0 a1 i2 j3)) ((spec_l01Fault.k1g N L0 (spec_l01Fault.k0 N K)) (.exit 2) (spec_l01Fault.sx1_0 a0 a1 i2)) a0 j3) := by
  have h := spec_l01Fault.b1_gen N K L1 (spec_l01Fault.k1g N L0 (spec_l01Fault.k0 N K)) a0 a1 i2 j3
  rw [spec_l01Fault.k1_mix] at h
  exact h

theorem spec_l01Fault.a1_0_gen {ρ : Type} (N : Nat) (K : AV → Heap → Option ρ) (L0 : St → Option ρ) (kv : XE → St → Option ρ) (a0 : Nat → Int) (a1 : Nat → Int) (i2 : Int) :
    (spec_l01Fault.k1g N L0 (mixK (spec_l01Fault.fin N K .ret) kv)) (.exit 2) (spec_l01Fault.sx1_0 a0 a1 i2) = (spec_l01Fault.a1_0 N (fun d0 d1 d2 d3 => K (.tup [.slice 0 0 d0 (some d1) 1, .bool (d2)]) [⟨true, .ints .i64 3 d3⟩]) (fun d0 => K (.tup [.nils, .bool (d0)]) []) (fun i2 => L0 (spec_l01Fault.st0 a0 a1 i2)) (kv (.exit 0) (spec_l01Fault.sx0_0 a0 a1)) i2) := by kernel_rfl

theorem spec_l01Fault.a1_0_eq {ρ : Type} (N : Nat) (K : AV → Heap → Option ρ) (L0 : St → Option ρ) (a0 : Nat → Int) (a1 : Nat → Int) (i2 : Int) :
    (spec_l01Fault.k1g N L0 (spec_l01Fault.k0 N K)) (.exit 2) (spec_l01Fault.sx1_0 a0 a1 i2) = (spec_l01Fault.a1_0 N (fun d0 d1 d2 d3 => K (.tup [.slice 0 0 d0 (some d1) 1, .bool (d2)]) [⟨true, .ints .i64 3 d3⟩]) (fun d0 => K (.tup [.nils, .bool (d0)]) []) (fun i2 => L0 (spec_l01Fault.st0 a0 a1 i2)) ((spec_l01Fault.k0 N K) (.exit 0) (spec_l01Fault.sx0_0 a0 a1)) i2) := by
  have h := spec_l01Fault.a1_0_gen N K L0 (spec_l01Fault.k0 N K) a0 a1 i2
  rw [spec_l01Fault.k0_mix] at h
  exact h

theorem spec_l01Fault.b0_gen {ρ : Type} (N : Nat) (K : AV → Heap → Option ρ) (L0 : St → Option ρ) (kv : XE → St → Option ρ) (a0 : Nat → Int) (a1 : Nat → Int) (i2 : Int) :
    xcode (E18 N) ents spec_l01Fault.kp 0 N (cL (cK (cB (cA (cB spec_l01Fault.bd))))) 0 (spec_l01Fault.st0 a0 a1 i2) (roundK spec_l01Fault.kp 0 0 L0 (mixK (spec_l01Fault.fin N K .ret) kv)) = (spec_l01Fault.b0 N (fun d0 d1 d2 d3 => K (.tup [.slice 0 0 d0 (some d1) 1, .bool (d2)]) [⟨true, .ints .i64 3 d3⟩]) (fun d0 => K (.tup [.nils, .bool (d0)]) []) (fun j3 => xloop (xcode (E18 N) ents spec_l01Fault.kp 0 N (cL (cK (cB (cK (cA (cB (cL (cK (cB (cA (cB spec_l01Fault.bd))))))))))) 2) spec_l01Fault.kp 0 2 N (spec_l01Fault.st1 a0 a1 i2 j3) (spec_l01Fault.k1g N L0 (mixK (spec_l01Fault.fin N K .ret) kv))) (fun i2 => L0 (spec_l01Fault.st0 a0 a1 i2)) (kv (.exit 0) (spec_l01Fault.sx0_0 a0 a1)) a0 i2) := by kernel_rfl

theorem spec_l01Fault.b0_eq {ρ : Type} (N : Nat) (K : AV → Heap → Option ρ) (L0 : St → Option ρ) (a0 : Nat → Int) (a1 : Nat → Int) (i2 : Int) :
    xcode (E18 N) ents spec_l01Fault.kp 0 N (cL (cK (cB (cA (cB spec_l01Fault.bd))))) 0 (spec_l01Fault.st0 a0 a1 i2) (roundK spec_l01Fault.kp 0 0 L0 (spec_l01Fault.k0 N K)) = (spec_l01Fault.b0 N (fun d0 d1 d2 d3 => K (.tup [.slice 0 0 d0 (some d1) 1, .bool (d2)]) [⟨true, .ints .i64 3 d3⟩]) (fun d0 => K (.tup [.nils, .bool (d0)]) []) (fun j3 => xloop (xcode (E18 N) ents spec_l01Fault.kp 0 N (cL (cK (cB (cK (cA (cB (cL (cK (cB (cA (cB spec_l01Fault.bd))))))))))) 2) spec_l01Fault.kp 0 2 N (spec_l01Fault.st1 a0 a1 i2 j3) (spec_l01Fault.k1g N L0 (spec_l01Fault.k0 N K))) (fun i2 => L0 (spec_l01Fault.st0 a0 a1 i2)) ((spec_l01Fault.k0 N K) (.exit 0) (spec_l01Fault.sx0_0 a0 a1)) a0 i2) := by
  have h := spec_l01Fault.b0_gen N K L0 (spec_l01Fault.k0 N K) a0 a1 i2
  rw [spec_l01Fault.k0_mix] at h
  exact h

theorem spec_l01Fault.a0_0_eq {ρ : Type} (N : Nat) (K : AV → Heap → Option ρ) (a0 : Nat → Int) (a1 : Nat → Int) :
    (spec_l01Fault.k0 N K) (.exit 0) (spec_l01Fault.sx0_0 a0 a1) = (spec_l01Fault.a0_0 N (fun d0 d1 d2 d3 => K (.tup [.slice 0 0 d0 (some d1) 1, .bool (d2)]) [⟨true, .ints .i64 3 d3⟩]) (fun d0 => K (.tup [.nils, .bool (d0)]) [])) := by kernel_rfl

theorem spec_l01Fault.l2_eq {ρ : Type} (N : Nat) (K : AV → Heap → Option ρ) (L0 : St → Option ρ) (L1 : St → Option ρ) (a0 : Nat → Int) (a1 : Nat → Int) (i2 : Int) (j3 : Int) :
    ∀ (m : Nat) (k4 : Int), xloop (xcode (E18 N) ents spec_l01Fault.kp 0 N (cL (cK (cB (cK (cA (cB (cL (cK (cB (cK (cA (cB (cL (cK (cB (cA (cB spec_l01Fault.bd))))))))))))))))) 4) spec_l01Fault.kp 0 4 m (spec_l01Fault.st2 a0 a1 i2 j3 k4) (spec_l01Fault.k2g N L1 (spec_l01Fault.k1g N L0 (spec_l01Fault.k0 N K))) = (spec_l01Fault.l2 N (fun d0 d1 d2 d3 => K (.tup [.slice 0 0 d0 (some d1) 1, .bool (d2)]) [⟨true, .ints .i64 3 d3⟩]) (fun d0 => K (.tup [.nils, .bool (d0)]) []) a0 a1 i2 j3 ((spec_l01Fault.k2g N L1 (spec_l01Fault.k1g N L0 (spec_l01Fault.k0 N K))) (.exit 4) (spec_l01Fault.sx2_0 a0 a1 i2 j3)) m k4) := by
  intro m
  induction m with
  | zero => intros; rfl
  | succ m ih =>
    intro k4
    refine (spec_l01Fault.b2_eq N K L0 L1 (fun s => xloop (xcode (E18 N) ents spec_l01Fault.kp 0 N (cL (cK (cB (cK (cA (cB (cL (cK (cB (cK (cA (cB (cL (cK (cB (cA (cB spec_l01Fault.bd))))))))))))))))) 4) spec_l01Fault.kp 0 4 m s (spec_l01Fault.k2g N L1 (spec_l01Fault.k1g N L0 (spec_l01Fault.k0 N K)))) a0 a1 i2 j3 k4).trans ?_
    simp only [ih]
    kernel_rfl

theorem spec_l01Fault.l1_eq {ρ : Type} (N : Nat) (K : AV → Heap → Option ρ) (L0 : St → Option ρ) (a0 : Nat → Int) (a1 : Nat → Int) (i2 : Int) :
    ∀ (m : Nat) (j3 : Int), xloop (xcode (E18 N) ents spec_l01Fault.kp 0 N (cL (cK (cB (cK (cA (cB (cL (cK (cB (cA (cB spec_l01Fault.bd))))))))))) 2) spec_l01Fault.kp 0 2 m (spec_l01Fault.st1 a0 a1 i2 j3) (spec_l01Fault.k1g N L0 (spec_l01Fault.k0 N K)) = (spec_l01Fault.l1 N (fun d0 d1 d2 d3 => K (.tup [.slice 0 0 d0 (some d1) 1, .bool (d2)]) [⟨true, .ints .i64 3 d3⟩]) (fun d0 => K (.tup [.nils, .bool (d0)]) []) a0 a1 i2 ((spec_l01Fault.k1g N L0 (spec_l01Fault.k0 N K)) (.exit 2) (spec_l01Fault.sx1_0 a0 a1 i2)) m j3) := by
  intro m
  induction m with
  | zero => intros; rfl
  | succ m ih =>
    intro j3
    refine (spec_l01Fault.b1_eq N K L0 (fun s => xloop (xcode (E18 N) ents spec_l01Fault.kp 0 N (cL (cK (cB (cK (cA (cB (cL (cK (cB (cA (cB spec_l01Fault.bd))))))))))) 2) spec_l01Fault.kp 0 2 m s (spec_l01Fault.k1g N L0 (spec_l01Fault.k0 N K))) a0 a1 i2 j3).trans ?_
    simp only [ih, spec_l01Fault.l2_eq, spec_l01Fault.a2_0_eq]
    kernel_rfl

theorem spec_l01Fault.l0_eq {ρ : Type} (N : Nat) (K : AV → Heap → Option ρ) (a0 : Nat → Int) (a1 : Nat → Int) :
    ∀ (m : Nat) (i2 : Int), xloop (xcode (E18 N) ents spec_l01Fault.kp 0 N (cL (cK (cB (cA (cB spec_l01Fault.bd))))) 0) spec_l01Fault.kp 0 0 m (spec_l01Fault.st0 a0 a1 i2) (spec_l01Fault.k0 N K) = (spec_l01Fault.l0 N (fun d0 d1 d2 d3 => K (.tup [.slice 0 0 d0 (some d1) 1, .bool (d2)]) [⟨true, .ints .i64 3 d3⟩]) (fun d0 => K (.tup [.nils, .bool (d0)]) []) a0 a1 ((spec_l01Fault.k0 N K) (.exit 0) (spec_l01Fault.sx0_0 a0 a1)) m i2) := by
  intro m
  induction m with
  | zero => intros; rfl
  | succ m ih =>
    intro i2
    refine (spec_l01Fault.b0_eq N K (fun s => xloop (xcode (E18 N) ents spec_l01Fault.kp 0 N (cL (cK (cB (cA (cB spec_l01Fault.bd))))) 0) spec_l01Fault.kp 0 0 m s (spec_l01Fault.k0 N K)) a0 a1 i2).trans ?_
    simp only [ih, spec_l01Fault.l1_eq, spec_l01Fault.a1_0_eq]
    kernel_rfl

theorem spec_l01Fault.s_eq {ρ : Type} (N : Nat) (K : AV → Heap → Option ρ) (a0 : Nat → Int) (a1 : Nat → Int) :
    xbody (E18 N) ents spec_l01Fault.kp N Go.Proofs.Try.f109 spec_l01Fault.bd [.agg [⟨.i64, 2, a0⟩, ⟨.u8, 520, a1⟩]] [] K = (spec_l01Fault.s N (fun d0 d1 d2 d3 => K (.tup [.slice 0 0 d0 (some d1) 1, .bool (d2)]) [⟨true, .ints .i64 3 d3⟩]) (fun d0 => K (.tup [.nils, .bool (d0)]) []) (fun i2 => xloop (xcode (E18 N) ents spec_l01Fault.kp 0 N (cL (cK (cB (cA (cB spec_l01Fault.bd))))) 0) spec_l01Fault.kp 0 0 N (spec_l01Fault.st0 a0 a1 i2) (spec_l01Fault.k0 N K))) := by kernel_rfl

theorem spec_l01Fault.eq {ρ : Type} (N : Nat) (K : AV → Heap → Option ρ) (a0 : Nat → Int) (a1 : Nat → Int) :
    xbody (E18 N) ents spec_l01Fault.kp N Go.Proofs.Try.f109 spec_l01Fault.bd [.agg [⟨.i64, 2, a0⟩, ⟨.u8, 520, a1⟩]] [] K = (spec_l01Fault N (fun d0 d1 d2 d3 => K (.tup [.slice 0 0 d0 (some d1) 1, .bool (d2)]) [⟨true, .ints .i64 3 d3⟩]) (fun d0 => K (.tup [.nils, .bool (d0)]) []) a0 a1) := by
  refine (spec_l01Fault.s_eq N K a0 a1).trans ?_
  simp only [spec_l01Fault.l0_eq, spec_l01Fault.a0_0_eq]
  kernel_rfl

noncomputable def spec_l01Fault.en (N : Nat) (ρ : Type) : List AV → Heap → (AV → Heap → Option ρ) → Option ρ
  | [.agg [⟨.i64, 2, a0⟩, ⟨.u8, 520, a1⟩]], [], K => (spec_l01Fault N (fun d0 d1 d2 d3 => K (.tup [.slice 0 0 d0 (some d1) 1, .bool (d2)]) [⟨true, .ints .i64 3 d3⟩]) (fun d0 => K (.tup [.nils, .bool (d0)]) []) a0 a1)
  | _, _, _ => none

theorem spec_l01Fault.en_ok (N : Nat) (hE : EnvOk (E18 N) ents) (ρ : Type) (args : List AV) (sh : Heap) (K : AV → Heap → Option ρ) (r : ρ) (h : spec_l01Fault.en N ρ args sh K = some r) : ∃ v sh', K v sh' = some r ∧ FnOk (E18 N).P 109 args sh v sh' := by
  unfold spec_l01Fault.en at h
  split at h
  · exact fn_ok hE (kp := spec_l01Fault.kp) (N := N) Go.Proofs.Try.func109 (c := spec_l01Fault.bd) (by kernel_rfl) ((spec_l01Fault.eq N _ _ _).trans h)
  · cases h

noncomputable def E19 (N : Nat) : Env := (E18 N).add 109 (spec_l01Fault.en N)

theorem E19_ok (N : Nat) : EnvOk (E19 N) ents := Env.add_ok (E18_ok N) (spec_l01Fault.en_ok N (E18_ok N))

noncomputable def spec_l01Is.kp : Keeps := ⟨[(0, [1, 3], 2)], [(0, [1], 2)]⟩

noncomputable def spec_l01Is.bd : Code := bodyOf Go.Proofs.Try.f90

noncomputable def spec_l01Is.fin {ρ : Type} (N : Nat) (K : AV → Heap → Option ρ) : XE → St → Option ρ := finK (E19 N) Go.Proofs.Try.f90 [] K

noncomputable def spec_l01Is.k0 {ρ : Type} (N : Nat) (K : AV → Heap → Option ρ) : XE → St → Option ρ := (blockK spec_l01Is.kp 0 0 (seqK (xcode (E19 N) ents spec_l01Is.kp 0 N (cB (cB (cB spec_l01Is.bd))) 0) (spec_l01Is.fin N K)))

theorem spec_l01Is.k0_mix {ρ : Type} (N : Nat) (K : AV → Heap → Option ρ) : mixK (spec_l01Is.fin N K .ret) (spec_l01Is.k0 N K) = (spec_l01Is.k0 N K) := by
  funext e s; cases e <;> rfl

noncomputable def spec_l01Is.st0 (a0 : Nat → Int) (a1 : Nat → Int) (i3 : Int) : St := ⟨sl 42 [(1, .sptr [(0, 2), (1, 520)]), (3, .int .i64 (i3))], [⟨true, .ints .i64 2 a0⟩, ⟨true, .ints .u8 520 a1⟩]⟩

noncomputable def spec_l01Is.sx0_0 (a0 : Nat → Int) (a1 : Nat → Int) : St := ⟨sl 42 [(1, .sptr [(0, 2), (1, 520)])], [⟨true, .ints .i64 2 a0⟩, ⟨true, .ints .u8 520 a1⟩]⟩

theorem spec_l01Is.b0_gen {ρ : Type} (N : Nat) (K : AV → Heap → Option ρ) (L0 : St → Option ρ) (kv : XE → St → Option ρ) (a0 : Nat → Int) (a1 : Nat → Int) (i3 : Int) :
    xcode (E19 N) ents spec_l01Is.kp 0 N (cL (cK (cB (cA (cB (cB spec_l01Is.bd)))))) 0 (spec_l01Is.st0 a0 a1 i3) (roundK spec_l01Is.kp 0 0 L0 (mixK (spec_l01Is.fin N K .ret) kv)) = (spec_l01Is.b0 N (fun d0 => K (.bool (d0)) []) (fun i3 => L0 (spec_l01Is.st0 a0 a1 i3)) (kv (.exit 0) (spec_l01Is.sx0_0 a0 a1)) a0 a1 i3) := by kernel_rfl

theorem spec_l01Is.b0_eq {ρ : Type} (N : Nat) (K : AV → Heap → Option ρ) (L0 : St → Option ρ) (a0 : Nat → Int) (a1 : Nat → Int) (i3 : Int) :
    xcode (E19 N) ents spec_l01Is.kp 0 N (cL (cK (cB (cA (cB (cB spec_l01Is.bd)))))) 0 (spec_l01Is.st0 a0 a1 i3) (roundK spec_l01Is.kp 0 0 L0 (spec_l01Is.k0 N K)) = (spec_l01Is.b0 N (fun d0 => K (.bool (d0)) []) (fun i3 => L0 (spec_l01Is.st0 a0 a1 i3)) ((spec_l01Is.k0 N K) (.exit 0) (spec_l01Is.sx0_0 a0 a1)) a0 a1 i3) := by
  have h := spec_l01Is.b0_gen N K L0 (spec_l01Is.k0 N K) a0 a1 i3
  rw [spec_l01Is.k0_mix] at h
  exact h

theorem spec_l01Is.a0_0_eq {ρ : Type} (N : Nat) (K : AV → Heap → Option ρ) (a0 : Nat → Int) (a1 : Nat → Int) :
    (spec_l01Is.k0 N K) (.exit 0) (spec_l01Is.sx0_0 a0 a1) = (spec_l01Is.a0_0 N (fun d0 => K (.bool (d0)) []) a0 a1) := by kernel_rfl

theorem spec_l01Is.l0_eq {ρ : Type} (N : Nat) (K : AV → Heap → Option ρ) (a0 : Nat → Int) (a1 : Nat → Int) :
    ∀ (m : Nat) (i3 : Int), xloop (xcode (E19 N) ents spec_l01Is.kp 0 N (cL (cK (cB (cA (cB (cB spec_l01Is.bd)))))) 0) spec_l01Is.kp 0 0 m (spec_l01Is.st0 a0 a1 i3) (spec_l01Is.k0 N K) = (spec_l01Is.l0 N (fun d0 => K (.bool (d0)) []) a0 a1 ((spec_l01Is.k0 N K) (.exit 0) (spec_l01Is.sx0_0 a0 a1)) m i3) := by
  intro m
  induction m with
  | zero => intros; rfl
  | succ m ih =>
    intro i3
    refine (spec_l01Is.b0_eq N K (fun s => xloop (xcode (E19 N) ents spec_l01Is.kp 0 N (cL (cK (cB (cA (cB (cB spec_l01Is.bd)))))) 0) spec_l01Is.kp 0 0 m s (spec_l01Is.k0 N K)) a0 a1 i3).trans ?_
    simp only [ih]
    kernel_rfl

theorem spec_l01Is.s_eq {ρ : Type} (N : Nat) (K : AV → Heap → Option ρ) (a0 : Nat → Int) (a1 : Nat → Int) :
    xbody (E19 N) ents spec_l01Is.kp N Go.Proofs.Try.f90 spec_l01Is.bd [.agg [⟨.i64, 2, a0⟩, ⟨.u8, 520, a1⟩]] [] K = (spec_l01Is.s N (fun d0 => K (.bool (d0)) []) (fun i3 => xloop (xcode (E19 N) ents spec_l01Is.kp 0 N (cL (cK (cB (cA (cB (cB spec_l01Is.bd)))))) 0) spec_l01Is.kp 0 0 N (spec_l01Is.st0 a0 a1 i3) (spec_l01Is.k0 N K)) a0 a1) := by kernel_rfl

theorem spec_l01Is.eq {ρ : Type} (N : Nat) (K : AV → Heap → Option ρ) (a0 : Nat → Int) (a1 : Nat → Int) :
    xbody (E19 N) ents spec_l01Is.kp N Go.Proofs.Try.f90 spec_l01Is.bd [.agg [⟨.i64, 2, a0⟩, ⟨.u8, 520, a1⟩]] [] K = (spec_l01Is N (fun d0 => K (.bool (d0)) []) a0 a1) := by
  refine (spec_l01Is.s_eq N K a0 a1).trans ?_
  simp only [spec_l01Is.l0_eq, spec_l01Is.a0_0_eq]
  kernel_rfl

noncomputable def spec_l01Is.en (N : Nat) (ρ : Type) : List AV → Heap → (AV → Heap → Option ρ) → Option ρ
  | [.agg [⟨.i64, 2, a0⟩, ⟨.u8, 520, a1⟩]], [], K => (spec_l01Is N (fun d0 => K (.bool (d0)) []) a0 a1)
  | _, _, _ => none

theorem spec_l01Is.en_ok (N : Nat) (hE : EnvOk (E19 N) ents) (ρ : Type) (args : List AV) (sh : Heap) (K : AV → Heap → Option ρ) (r : ρ) (h : spec_l01Is.en N ρ args sh K = some r) : ∃ v sh', K v sh' = some r ∧ FnOk (E19 N).P 90 args sh v sh' := by
  unfold spec_l01Is.en at h
  split at h
  · exact fn_ok hE (kp := spec_l01Is.kp) (N := N) Go.Proofs.Try.func90 (c := spec_l01Is.bd) (by kernel_rfl) ((spec_l01Is.eq N _ _ _).trans h)
  · cases h

noncomputable def E20 (N : Nat) : Env := (E19 N).add 90 (spec_l01Is.en N)

theorem E20_ok (N : Nat) : EnvOk (E20 N) ents := Env.add_ok (E19_ok N) (spec_l01Is.en_ok N (E19_ok N))

noncomputable def spec_l03Coalgebra.kp : Keeps := ⟨[], []⟩

noncomputable def spec_l03Coalgebra.bd : Code := bodyOf Go.Proofs.Try.f92

noncomputable def spec_l03Coalgebra.fin {ρ : Type} (N : Nat) (K : AV → Heap → Option ρ) : XE → St → Option ρ := finK (E20 N) Go.Proofs.Try.f92 [] K

theorem spec_l03Coalgebra.eq {ρ : Type} (N : Nat) (K : AV → Heap → Option ρ) (h0 : Nat → Int) (h1 : Nat → Int) :
    xbody (E20 N) ents spec_l03Coalgebra.kp N Go.Proofs.Try.f92 spec_l03Coalgebra.bd [.agg [⟨.i64, 2, h0⟩, ⟨.u8, 1104, h1⟩]] [] K = (spec_l03Coalgebra N (fun d0 d1 => K (.agg [⟨.i64, 2, d0⟩, ⟨.u8, 520, d1⟩]) []) h0 h1) := by kernel_rfl

noncomputable def spec_l03Coalgebra.en (N : Nat) (ρ : Type) : List AV → Heap → (AV → Heap → Option ρ) → Option ρ
  | [.agg [⟨.i64, 2, h0⟩, ⟨.u8, 1104, h1⟩]], [], K => (spec_l03Coalgebra N (fun d0 d1 => K (.agg [⟨.i64, 2, d0⟩, ⟨.u8, 520, d1⟩]) []) h0 h1)
  | _, _, _ => none

theorem spec_l03Coalgebra.en_ok (N : Nat) (hE : EnvOk (E20 N) ents) (ρ : Type) (args : List AV) (sh : Heap) (K : AV → Heap → Option ρ) (r : ρ) (h : spec_l03Coalgebra.en N ρ args sh K = some r) : ∃ v sh', K v sh' = some r ∧ FnOk (E20 N).P 92 args sh v sh' := by
  unfold spec_l03Coalgebra.en at h
  split at h
  · exact fn_ok hE (kp := spec_l03Coalgebra.kp) (N := N) Go.Proofs.Try.func92 (c := spec_l03Coalgebra.bd) (by kernel_rfl) ((spec_l03Coalgebra.eq N _ _ _).trans h)
  · cases h

noncomputable def E21 (N : Nat) : Env := (E20 N).add 92 (spec_l03Coalgebra.en N)

theorem E21_ok (N : Nat) : EnvOk (E21 N) ents := Env.add_ok (E20_ok N) (spec_l03Coalgebra.en_ok N (E20_ok N))

noncomputable def spec_l02Shape.kp : Keeps := ⟨[], []⟩

noncomputable def spec_l02Shape.bd : Code := bodyOf Go.Proofs.Try.f110

noncomputable def spec_l02Shape.fin {ρ : Type} (N : Nat) (K : AV → Heap → Option ρ) : XE → St → Option ρ := finK (E21 N) Go.Proofs.Try.f110 [] K

theorem spec_l02Shape.eq {ρ : Type} (N : Nat) (K : AV → Heap → Option ρ) (c0 : Nat → Int) (c1 : Nat → Int) :
    xbody (E21 N) ents spec_l02Shape.kp N Go.Proofs.Try.f110 spec_l02Shape.bd [.agg [⟨.i64, 2, c0⟩, ⟨.u8, 520, c1⟩]] [] K = (spec_l02Shape N (fun d0 => K (.bool (d0)) []) c0 c1) := by kernel_rfl

noncomputable def spec_l02Shape.en (N : Nat) (ρ : Type) : List AV → Heap → (AV → Heap → Option ρ) → Option ρ
  | [.agg [⟨.i64, 2, c0⟩, ⟨.u8, 520, c1⟩]], [], K => (spec_l02Shape N (fun d0 => K (.bool (d0)) []) c0 c1)
  | _, _, _ => none

theorem spec_l02Shape.en_ok (N : Nat) (hE : EnvOk (E21 N) ents) (ρ : Type) (args : List AV) (sh : Heap) (K : AV → Heap → Option ρ) (r : ρ) (h : spec_l02Shape.en N ρ args sh K = some r) : ∃ v sh', K v sh' = some r ∧ FnOk (E21 N).P 110 args sh v sh' := by
  unfold spec_l02Shape.en at h
  split at h
  · exact fn_ok hE (kp := spec_l02Shape.kp) (N := N) Go.Proofs.Try.func110 (c := spec_l02Shape.bd) (by kernel_rfl) ((spec_l02Shape.eq N _ _ _).trans h)
  · cases h

noncomputable def E22 (N : Nat) : Env := (E21 N).add 110 (spec_l02Shape.en N)

theorem E22_ok (N : Nat) : EnvOk (E22 N) ents := Env.add_ok (E21_ok N) (spec_l02Shape.en_ok N (E21_ok N))

noncomputable def spec_l02Sums.kp : Keeps := ⟨[(0, [1, 2, 3, 4, 5, 12, 13, 14], 2)], [(0, [5, 12, 13], 2)]⟩

noncomputable def spec_l02Sums.bd : Code := bodyOf Go.Proofs.Try.f115

noncomputable def spec_l02Sums.fin {ρ : Type} (N : Nat) (K : AV → Heap → Option ρ) : XE → St → Option ρ := finK (E22 N) Go.Proofs.Try.f115 [] K

noncomputable def spec_l02Sums.k0 {ρ : Type} (N : Nat) (K : AV → Heap → Option ρ) : XE → St → Option ρ := (blockK spec_l02Sums.kp 0 0 (seqK (xcode (E22 N) ents spec_l02Sums.kp 0 N (cB (cB (cB spec_l02Sums.bd))) 0) (spec_l02Sums.fin N K)))

theorem spec_l02Sums.k0_mix {ρ : Type} (N : Nat) (K : AV → Heap → Option ρ) : mixK (spec_l02Sums.fin N K .ret) (spec_l02Sums.k0 N K) = (spec_l02Sums.k0 N K) := by
  funext e s; cases e <;> rfl

noncomputable def spec_l02Sums.st0 (c0 : Nat → Int) (c1 : Nat → Int) (i2 : Int) (j3 : Int) (k4 : Int) (l5 : Int) (left6 : Int) (right7 : Int) (a8 : Int) : St := ⟨sl 71 [(1, .int .i64 (i2)), (2, .int .i64 (j3)), (3, .int .i64 (k4)), (4, .int .i64 (l5)), (5, .sptr [(0, 2), (1, 520)]), (12, .int .i64 (left6)), (13, .int .i64 (right7)), (14, .int .i64 (a8))], [⟨true, .ints .i64 2 c0⟩, ⟨true, .ints .u8 520 c1⟩]⟩

noncomputable def spec_l02Sums.sx0_0 (c0 : Nat → Int) (c1 : Nat → Int) (o9 : Int) (o10 : Int) : St := ⟨sl 71 [(5, .sptr [(0, 2), (1, 520)]), (12, .int .i64 (o9)), (13, .int .i64 (o10))], [⟨true, .ints .i64 2 c0⟩, ⟨true, .ints .u8 520 c1⟩]⟩

theorem spec_l02Sums.b0_gen {ρ : Type} (N : Nat) (K : AV → Heap → Option ρ) (L0 : St → Option ρ) (kv : XE → St → Option ρ) (c0 : Nat → Int) (c1 : Nat → Int) (i2 : Int) (j3 : Int) (k4 : Int) (l5 : Int) (left6 : Int) (right7 : Int) (a8 : Int) :
    xcode (E22 N) ents spec_l02Sums.kp 0 N (cL (cK (cB (cA (cB (cB spec_l02Sums.bd)))))) 0 (spec_l02Sums.st0 c0 c1 i2 j3 k4 l5 left6 right7 a8) (roundK spec_l02Sums.kp 0 0 L0 (mixK (spec_l02Sums.fin N K .ret) kv)) = (spec_l02Sums.b0 N (fun d0 d1 => K (.tup [.int .u8 (d0), .int .u8 (d1)]) []) (fun left6 right7 a8 => L0 (spec_l02Sums.st0 c0 c1 i2 j3 k4 l5 left6 right7 a8)) (fun o9 o10 => kv (.exit 0) (spec_l02Sums.sx0_0 c0 c1 o9 o10)) c0 c1 i2 j3 k4 l5 left6 right7 a8) := by kernel_rfl

theorem spec_l02Sums.b0_eq {ρ : Type} (N : Nat) (K : AV → Heap → Option ρ) (L0 : St → Option ρ) (c0 : Nat → Int) (c1 : Nat → Int) (i2 : Int) (j3 : Int) (k4 : Int) (l5 : Int) (left6 : Int) (right7 : Int) (a8 : Int) :
    xcode (E22 N) ents spec_l02Sums.kp 0 N (cL (cK (cB (cA (cB (cB spec_l02Sums.bd)))))) 0 (spec_l02Sums.st0 c0 c1 i2 j3 k4 l5 left6 right7 a8) (roundK spec_l02Sums.kp 0 0 L0 (spec_l02Sums.k0 N K)) = (spec_l02Sums.b0 N (fun d0 d1 => K (.tup [.int .u8 (d0), .int .u8 (d1)]) []) (fun left6 right7 a8 => L0 (spec_l02Sums.st0 c0 c1 i2 j3 k4 l5 left6 right7 a8)) (fun o9 o10 => (spec_l02Sums.k0 N K) (.exit 0) (spec_l02Sums.sx0_0 c0 c1 o9 o10)) c0 c1 i2 j3 k4 l5 left6 right7 a8) := by
  have h := spec_l02Sums.b0_gen N K L0 (spec_l02Sums.k0 N K) c0 c1 i2 j3 k4 l5 left6 right7 a8
  rw [spec_l02Sums.k0_mix] at h
  exact h

theorem spec_l02Sums.a0_0_eq {ρ : Type} (N : Nat) (K : AV → Heap → Option ρ) (c0 : Nat → Int) (c1 : Nat → Int) (o9 : Int) (o10 : Int) :
    (spec_l02Sums.k0 N K) (.exit 0) (spec_l02Sums.sx0_0 c0 c1 o9 o10) = (spec_l02Sums.a0_0 N (fun d0 d1 => K (.tup [.int .u8 (d0), .int .u8 (d1)]) []) c0 o9 o10) := by kernel_rfl

theorem spec_l02Sums.l0_eq {ρ : Type} (N : Nat) (K : AV → Heap → Option ρ) (c0 : Nat → Int) (c1 : Nat → Int) (i2 : Int) (j3 : Int) (k4 : Int) (l5 : Int) :
    ∀ (m : Nat) (left6 : Int) (right7 : Int) (a8 : Int), xloop (xcode (E22 N) ents spec_l02Sums.kp 0 N (cL (cK (cB (cA (cB (cB spec_l02Sums.bd)))))) 0) spec_l02Sums.kp 0 0 m (spec_l02Sums.st0 c0 c1 i2 j3 k4 l5 left6 right7 a8) (spec_l02Sums.k0 N K) = (spec_l02Sums.l0 N (fun d0 d1 => K (.tup [.int .u8 (d0), .int .u8 (d1)]) []) c0 c1 i2 j3 k4 l5 (fun o9 o10 => (spec_l02Sums.k0 N K) (.exit 0) (spec_l02Sums.sx0_0 c0 c1 o9 o10)) m left6 right7 a8) := by
  intro m
  induction m with
  | zero => intros; rfl
  | succ m ih =>
    intro left6 right7 a8
    refine (spec_l02Sums.b0_eq N K (fun s => xloop (xcode (E22 N) ents spec_l02Sums.kp 0 N (cL (cK (cB (cA (cB (cB spec_l02Sums.bd)))))) 0) spec_l02Sums.kp 0 0 m s (spec_l02Sums.k0 N K)) c0 c1 i2 j3 k4 l5 left6 right7 a8).trans ?_
    simp only [ih]
    kernel_rfl

theorem spec_l02Sums.s_eq {ρ : Type} (N : Nat) (K : AV → Heap → Option ρ) (c0 : Nat → Int) (c1 : Nat → Int) (i2 : Int) (j3 : Int) (k4 : Int) (l5 : Int) :
    xbody (E22 N) ents spec_l02Sums.kp N Go.Proofs.Try.f115 spec_l02Sums.bd [.agg [⟨.i64, 2, c0⟩, ⟨.u8, 520, c1⟩], .int .i64 (i2), .int .i64 (j3), .int .i64 (k4), .int .i64 (l5)] [] K = (spec_l02Sums.s N (fun d0 d1 => K (.tup [.int .u8 (d0), .int .u8 (d1)]) []) (fun left6 right7 a8 => xloop (xcode (E22 N) ents spec_l02Sums.kp 0 N (cL (cK (cB (cA (cB (cB spec_l02Sums.bd)))))) 0) spec_l02Sums.kp 0 0 N (spec_l02Sums.st0 c0 c1 i2 j3 k4 l5 left6 right7 a8) (spec_l02Sums.k0 N K))) := by kernel_rfl

theorem spec_l02Sums.eq {ρ : Type} (N : Nat) (K : AV → Heap → Option ρ) (c0 : Nat → Int) (c1 : Nat → Int) (i2 : Int) (j3 : Int) (k4 : Int) (l5 : Int) :
    xbody (E22 N) ents spec_l02Sums.kp N Go.Proofs.Try.f115 spec_l02Sums.bd [.agg [⟨.i64, 2, c0⟩, ⟨.u8, 520, c1⟩], .int .i64 (i2), .int .i64 (j3), .int .i64 (k4), .int .i64 (l5)] [] K = (spec_l02Sums N (fun d0 d1 => K (.tup [.int .u8 (d0), .int .u8 (d1)]) []) c0 c1 i2 j3 k4 l5) := by
  refine (spec_l02Sums.s_eq N K c0 c1 i2 j3 k4 l5).trans ?_
  simp only [spec_l02Sums.l0_eq, spec_l02Sums.a0_0_eq]
  kernel_rfl

noncomputable def spec_l02Sums.en (N : Nat) (ρ : Type) : List AV → Heap → (AV → Heap → Option ρ) → Option ρ
  | [.agg [⟨.i64, 2, c0⟩, ⟨.u8, 520, c1⟩], .int .i64 (i2), .int .i64 (j3), .int .i64 (k4), .int .i64 (l5)], [], K => (spec_l02Sums N (fun d0 d1 => K (.tup [.int .u8 (d0), .int .u8 (d1)]) []) c0 c1 i2 j3 k4 l5)
  | _, _, _ => none

theorem spec_l02Sums.en_ok (N : Nat) (hE : EnvOk (E22 N) ents) (ρ : Type) (args : List AV) (sh : Heap) (K : AV → Heap → Option ρ) (r : ρ) (h : spec_l02Sums.en N ρ args sh K = some r) : ∃ v sh', K v sh' = some r ∧ FnOk (E22 N).P 115 args sh v sh' := by
  unfold spec_l02Sums.en at h
  split at h
  · exact fn_ok hE (kp := spec_l02Sums.kp) (N := N) Go.Proofs.Try.func115 (c := spec_l02Sums.bd) (by kernel_rfl) ((spec_l02Sums.eq N _ _ _ _ _ _ _).trans h)
  · cases h

noncomputable def E23 (N : Nat) : Env := (E22 N).add 115 (spec_l02Sums.en N)

theorem E23_ok (N : Nat) : EnvOk (E23 N) ents := Env.add_ok (E22_ok N) (spec_l02Sums.en_ok N (E22_ok N))

noncomputable def spec_l02Fault.kp : Keeps := ⟨[(0, [1, 4, 5], 2)], [(0, [], 2)]⟩

noncomputable def spec_l02Fault.bd : Code := bodyOf Go.Proofs.Try.f111

noncomputable def spec_l02Fault.fin {ρ : Type} (N : Nat) (K : AV → Heap → Option ρ) : XE → St → Option ρ := finK (E23 N) Go.Proofs.Try.f111 [] K

noncomputable def spec_l02Fault.k0 {ρ : Type} (N : Nat) (K : AV → Heap → Option ρ) : XE → St → Option ρ := (blockK spec_l02Fault.kp 0 0 (seqK (xcode (E23 N) ents spec_l02Fault.kp 0 N (cB (cB (cB spec_l02Fault.bd))) 0) (spec_l02Fault.fin N K)))

theorem spec_l02Fault.k0_mix {ρ : Type} (N : Nat) (K : AV → Heap → Option ρ) : mixK (spec_l02Fault.fin N K .ret) (spec_l02Fault.k0 N K) = (spec_l02Fault.k0 N K) := by
  funext e s; cases e <;> rfl

noncomputable def spec_l02Fault.st0 (c0 : Nat → Int) (c1 : Nat → Int) (m2 : Int) : St := ⟨sl 64 [(1, .sptr [(0, 2), (1, 520)]), (4, .int .i64 ((c0 1))), (5, .int .i64 (m2))], [⟨true, .ints .i64 2 c0⟩, ⟨true, .ints .u8 520 c1⟩]⟩

noncomputable def spec_l02Fault.sx0_0 (c0 : Nat → Int) (c1 : Nat → Int) : St := ⟨sl 64 [], [⟨true, .ints .i64 2 c0⟩, ⟨true, .ints .u8 520 c1⟩]⟩

theorem spec_l02Fault.b0_gen {ρ : Type} (N : Nat) (K : AV → Heap → Option ρ) (L0 : St → Option ρ) (kv : XE → St → Option ρ) (c0 : Nat → Int) (c1 : Nat → Int) (m2 : Int) :
    xcode (E23 N) ents spec_l02Fault.kp 0 N (cL (cK (cB (cA (cB (cB spec_l02Fault.bd)))))) 0 (spec_l02Fault.st0 c0 c1 m2) (roundK spec_l02Fault.kp 0 0 L0 (mixK (spec_l02Fault.fin N K .ret) kv)) = (spec_l02Fault.b0 N (fun d0 d1 d2 d3 => K (.tup [.slice 0 0 d0 (some d1) 1, .bool (d2)]) [⟨true, .ints .i64 4 d3⟩]) (fun d0 => K (.tup [.nils, .bool (d0)]) []) (fun m2 => L0 (spec_l02Fault.st0 c0 c1 m2)) (kv (.exit 0) (spec_l02Fault.sx0_0 c0 c1)) c0 c1 m2) := by kernel_rfl

theorem spec_l02Fault.b0_eq {ρ : Type} (N : Nat) (K : AV → Heap → Option ρ) (L0 : St → Option ρ) (c0 : Nat → Int) (c1 : Nat → Int) (m2 : Int) :
    xcode (E23 N) ents spec_l02Fault.kp 0 N (cL (cK (cB (cA (cB (cB spec_l02Fault.bd)))))) 0 (spec_l02Fault.st0 c0 c1 m2) (roundK spec_l02Fault.kp 0 0 L0 (spec_l02Fault.k0 N K)) = (spec_l02Fault.b0 N (fun d0 d1 d2 d3 => K (.tup [.slice 0 0 d0 (some d1) 1, .bool (d2)]) [⟨true, .ints .i64 4 d3⟩]) (fun d0 => K (.tup [.nils, .bool (d0)]) []) (fun m2 => L0 (spec_l02Fault.st0 c0 c1 m2)) ((spec_l02Fault.k0 N K) (.exit 0) (spec_l02Fault.sx0_0 c0 c1)) c0 c1 m2) := by
  have h := spec_l02Fault.b0_gen N K L0 (spec_l02Fault.k0 N K) c0 c1 m2
  rw [spec_l02Fault.k0_mix] at h
  exact h

theorem spec_l02Fault.a0_0_eq {ρ : Type} (N : Nat) (K : AV → Heap → Option ρ) (c0 : Nat → Int) (c1 : Nat → Int) :
    (spec_l02Fault.k0 N K) (.exit 0) (spec_l02Fault.sx0_0 c0 c1) = (spec_l02Fault.a0_0 N (fun d0 d1 d2 d3 => K (.tup [.slice 0 0 d0 (some d1) 1, .bool (d2)]) [⟨true, .ints .i64 4 d3⟩]) (fun d0 => K (.tup [.nils, .bool (d0)]) [])) := by kernel_rfl

theorem spec_l02Fault.l0_eq {ρ : Type} (N : Nat) (K : AV → Heap → Option ρ) (c0 : Nat → Int) (c1 : Nat → Int) :
    ∀ (m : Nat) (m2 : Int), xloop (xcode (E23 N) ents spec_l02Fault.kp 0 N (cL (cK (cB (cA (cB (cB spec_l02Fault.bd)))))) 0) spec_l02Fault.kp 0 0 m (spec_l02Fault.st0 c0 c1 m2) (spec_l02Fault.k0 N K) = (spec_l02Fault.l0 N (fun d0 d1 d2 d3 => K (.tup [.slice 0 0 d0 (some d1) 1, .bool (d2)]) [⟨true, .ints .i64 4 d3⟩]) (fun d0 => K (.tup [.nils, .bool (d0)]) []) c0 c1 ((spec_l02Fault.k0 N K) (.exit 0) (spec_l02Fault.sx0_0 c0 c1)) m m2) := by
  intro m
  induction m with
  | zero => intros; rfl
  | succ m ih =>
    intro m2
    refine (spec_l02Fault.b0_eq N K (fun s => xloop (xcode (E23 N) ents spec_l02Fault.kp 0 N (cL (cK (cB (cA (cB (cB spec_l02Fault.bd)))))) 0) spec_l02Fault.kp 0 0 m s (spec_l02Fault.k0 N K)) c0 c1 m2).trans ?_
    simp only [ih]
    kernel_rfl

theorem spec_l02Fault.s_eq {ρ : Type} (N : Nat) (K : AV → Heap → Option ρ) (c0 : Nat → Int) (c1 : Nat → Int) :
    xbody (E23 N) ents spec_l02Fault.kp N Go.Proofs.Try.f111 spec_l02Fault.bd [.agg [⟨.i64, 2, c0⟩, ⟨.u8, 520, c1⟩]] [] K = (spec_l02Fault.s N (fun d0 d1 d2 d3 => K (.tup [.slice 0 0 d0 (some d1) 1, .bool (d2)]) [⟨true, .ints .i64 4 d3⟩]) (fun d0 => K (.tup [.nils, .bool (d0)]) []) (fun m2 => xloop (xcode (E23 N) ents spec_l02Fault.kp 0 N (cL (cK (cB (cA (cB (cB spec_l02Fault.bd)))))) 0) spec_l02Fault.kp 0 0 N (spec_l02Fault.st0 c0 c1 m2) (spec_l02Fault.k0 N K))) := by kernel_rfl

theorem spec_l02Fault.eq {ρ : Type} (N : Nat) (K : AV → Heap → Option ρ) (c0 : Nat → Int) (c1 : Nat → Int) :
    xbody (E23 N) ents spec_l02Fault.kp N Go.Proofs.Try.f111 spec_l02Fault.bd [.agg [⟨.i64, 2, c0⟩, ⟨.u8, 520, c1⟩]] [] K = (spec_l02Fault N (fun d0 d1 d2 d3 => K (.tup [.slice 0 0 d0 (some d1) 1, .bool (d2)]) [⟨true, .ints .i64 4 d3⟩]) (fun d0 => K (.tup [.nils, .bool (d0)]) []) c0 c1) := by
  refine (spec_l02Fault.s_eq N K c0 c1).trans ?_
  simp only [spec_l02Fault.l0_eq, spec_l02Fault.a0_0_eq]
  kernel_rfl

noncomputable def spec_l02Fault.en (N : Nat) (ρ : Type) : List AV → Heap → (AV → Heap → Option ρ) → Option ρ
  | [.agg [⟨.i64, 2, c0⟩, ⟨.u8, 520, c1⟩]], [], K => (spec_l02Fault N (fun d0 d1 d2 d3 => K (.tup [.slice 0 0 d0 (some d1) 1, .bool (d2)]) [⟨true, .ints .i64 4 d3⟩]) (fun d0 => K (.tup [.nils, .bool (d0)]) []) c0 c1)
  | _, _, _ => none

theorem spec_l02Fault.en_ok (N : Nat) (hE : EnvOk (E23 N) ents) (ρ : Type) (args : List AV) (sh : Heap) (K : AV → Heap → Option ρ) (r : ρ) (h : spec_l02Fault.en N ρ args sh K = some r) : ∃ v sh', K v sh' = some r ∧ FnOk (E23 N).P 111 args sh v sh' := by
  unfold spec_l02Fault.en at h
  split at h
  · exact fn_ok hE (kp := spec_l02Fault.kp) (N := N) Go.Proofs.Try.func111 (c := spec_l02Fault.bd) (by kernel_rfl) ((spec_l02Fault.eq N _ _ _).trans h)
  · cases h

noncomputable def E24 (N : Nat) : Env := (E23 N).add 111 (spec_l02Fault.en N)

theorem E24_ok (N : Nat) : EnvOk (E24 N) ents := Env.add_ok (E23_ok N) (spec_l02Fault.en_ok N (E23_ok N))
end Go.Proofs.Ytacdnmdfoimjcaa.H
