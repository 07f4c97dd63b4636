import Derived.Test.YthecjjnieojjoaaHP0
import Derived.Test.YthecjjnieojjoaaChecked
import Derived.KernelRfl
namespace Go.Proofs.Ythecjjnieojjoaa.H
set_option linter.unusedVariables false
set_option linter.unusedSimpArgs false
noncomputable section
open Go Go.RowKit Go.Proofs.Ythecjjnieojjoaa.Hy
set_option maxRecDepth 100000
def lays : List Lay := [.other, .func, .int .i64, .int .i64, .bool, .int .u8, .int .u8, .mix [(0, 1, false), (1, 1, false), (2, 1, false), (3, 1, false)] [.int .i64, .int .i64, .bool, .int .u8], .mix [(0, 1, false), (1, 1, false), (2, 1, false), (3, 1, false)] [.int .i64, .int .i64, .bool, .int .u8], .str, .str, .str, .int .u64, .mix [(0, 1, false), (1, 1, false)] [.str, .int .u64], .mix [(0, 1, false), (1, 1, false)] [.str, .int .u64], .ptr, .ptr, .ptr, .other, .other, .other, .int .i32, .arr 8 5 1 .u8, .arr 8 22 8 .u8, .arr 8 23 64 .u8, .struct [(0, 1, false), (1, 1, false), (2, 8, true), (10, 512, true)] [(.i64, 2), (.u8, 520)], .struct [(0, 1, false), (1, 1, false), (2, 8, true), (10, 512, true)] [(.i64, 2), (.u8, 520)], .func, .arr 8 5 1 .u8, .arr 8 28 8 .u8, .arr 8 28 8 .u8, .arr 8 30 64 .u8, .arr 8 30 64 .u8, .struct [(0, 1, false), (1, 1, false), (2, 8, true), (10, 512, true)] [(.i64, 2), (.u8, 520)], .struct [(0, 1, false), (1, 1, false), (2, 8, true), (10, 512, true)] [(.i64, 2), (.u8, 520)], .func, .func, .slice 2 1 8, .other, .func, .func, .func, .other, .func, .func, .func, .other, .func, .other, .func, .func, .struct [(0, 1, false), (1, 1, false), (2, 8, true), (10, 512, true)] [(.i64, 2), (.u8, 520)], .struct [(0, 1, false), (1, 1, false), (2, 8, true), (10, 512, true)] [(.i64, 2), (.u8, 520)], .other, .func, .func, .func, .slice 28 8 8, .other, .func, .func, .func, .struct [(0, 1, false), (1, 1, false), (2, 8, true), (10, 512, true)] [(.i64, 2), (.u8, 520)], .struct [(0, 1, false), (1, 1, false), (2, 8, true), (10, 512, true)] [(.i64, 2), (.u8, 520)], .func, .func, .func, .func, .slice 22 8 8, .func, .func, .func, .func, .func, .func, .func, .func, .func, .other, .func, .func, .func, .func, .func, .struct [(0, 1, false), (1, 1, false)] [(.i64, 2)], .struct [(0, 1, false), (1, 1, false)] [(.i64, 2)], .func, .func, .func, .ptr, .func, .func, .func, .func, .func, .ptr, .func, .func, .func, .func, .func, .func, .func, .func, .ptr, .ptr, .func, .func, .func, .func, .func, .func, .func, .func, .func, .func, .func, .func, .func, .func, .func, .func, .ptr, .func, .func, .func, .func, .other, .func, .func, .func, .func, .slice 30 64 64, .func, .func, .func, .slice 89 1 8, .func, .func, .ptr, .func, .slice 145 1 24, .slice 3 1 8, .mix [(0, 2, true), (2, 1, false), (3, 1, false), (4, 1, false)] [.run .i64 2, .int .i64, .nils, .nils], .mix [(0, 2, true), (2, 1, false), (3, 1, false), (4, 1, false)] [.run .i64 2, .int .i64, .nils, .nils], .slice 5 1 1, .func, .func, .func, .func, .func, .func, .func, .func, .func, .func, .func, .func, .func, .func, .func, .func, .func, .func, .func, .func, .func, .func, .func, .barr 8 4, .func, .func, .func, .func, .func, .func, .func, .other, .other, .other, .other, .other, .func, .int .u32, .int .u8, .int .u8, .func, .ptr, .int .i32, .int .i32, .other, .other, .func, .other]
def wrs : List (FuncId × List Bool) := [(39, [true]), (97, [true]), (115, [false, false, true, true, true, true]), (123, [false, false, true, false, false, true, true]), (143, [false, false, false, false, false, true, true])]
def ents : List FuncId := [14, 16, 17, 24, 38, 39, 40, 51, 52, 53, 54, 55, 56, 57, 58, 59, 60, 61, 62, 63, 64, 65, 67, 68, 69, 73, 74, 78, 81, 83, 85, 89, 90, 91, 92, 93, 94, 95, 96, 97, 98, 99, 100, 101, 102, 103, 104, 105, 106, 109, 111, 112, 113, 114, 115, 116, 117, 118, 122, 123, 124, 125, 126, 127, 128, 129, 130, 131, 132, 139, 140, 141, 142, 143, 144, 145, 146, 148, 150, 153]
def E0 (N : Nat) : Env := env0 Go.Proofs.Try.prog lays wrs
theorem E0_ok (N : Nat) : EnvOk (E0 N) ents := env0_ok (by kernel_rfl) (by kernel_rfl) (by kernel_rfl)
def laws_toVector.kp : Keeps := ⟨[(0, [1, 2, 3, 4], [], [])], [(0, [2, 3], [], [])], []⟩
def laws_toVector.bd : Code := bodyOf Try.f24
def laws_toVector.fin {ρ : Type} (N : Nat) (K : AV → Heap → Option ρ) : XE → St → Option ρ := finK (E0 N) laws_toVector.kp.fins Try.f24 [] K
def laws_toVector.k0 {ρ : Type} (N : Nat) (K : AV → Heap → Option ρ) : XE → St → Option ρ := (blockK laws_toVector.kp 0 0 (seqK (xcode (E0 N) ents laws_toVector.kp 0 N (cB (cB (cB laws_toVector.bd))) 0) (laws_toVector.fin N K)))
theorem laws_toVector.k0_mix {ρ : Type} (N : Nat) (K : AV → Heap → Option ρ) : mixK (laws_toVector.fin N K .ret) (laws_toVector.k0 N K) = (laws_toVector.k0 N K) := by
  funext e s; cases e <;> kernel_rfl
def laws_toVector.st0 (av0 : Nat → Int) (i1 : Int) (gv2 : Nat → Int) : St := ⟨sl 15 [(1, .sptr [(0, 8)]), (2, .sptr [(1, 8)]), (3, .sptr [(2, 8)]), (4, .int .i64 (i1))], [⟨true, .flat 8 (.ints .u8 av0)⟩, ⟨true, .flat 8 (.ints .u8 (fun _ => 0))⟩, ⟨true, .flat 8 (.ints .u8 gv2)⟩]⟩
def laws_toVector.sx0_0 (ov3 : Nat → Int) : St := ⟨sl 15 [(2, .sptr [(0, 8)]), (3, .sptr [(1, 8)])], [⟨true, .flat 8 (.ints .u8 (fun _ => 0))⟩, ⟨true, .flat 8 (.ints .u8 ov3)⟩]⟩
theorem laws_toVector.b0_gen {ρ : Type} (N : Nat) (K : AV → Heap → Option ρ) (L0 : St → Option ρ) (kv : XE → St → Option ρ) (av0 : Nat → Int) (i1 : Int) (gv2 : Nat → Int) :
    xcode (E0 N) ents laws_toVector.kp 0 N (cL (cK (cB (cA (cB (cB laws_toVector.bd)))))) 0 (laws_toVector.st0 av0 i1 gv2) (roundK laws_toVector.kp 0 0 L0 (mixK (laws_toVector.fin N K .ret) kv)) = (laws_toVector.b0 N (fun d0 => K (.agg [⟨.u8, 8, d0⟩]) []) (fun i1 gv2 => L0 (laws_toVector.st0 av0 i1 gv2)) (fun ov3 => kv (.exit 0) (laws_toVector.sx0_0 ov3)) av0 i1 gv2) := by kernel_rfl
theorem laws_toVector.b0_eq {ρ : Type} (N : Nat) (K : AV → Heap → Option ρ) (L0 : St → Option ρ) (av0 : Nat → Int) (i1 : Int) (gv2 : Nat → Int) :
    xcode (E0 N) ents laws_toVector.kp 0 N (cL (cK (cB (cA (cB (cB laws_toVector.bd)))))) 0 (laws_toVector.st0 av0 i1 gv2) (roundK laws_toVector.kp 0 0 L0 (laws_toVector.k0 N K)) = (laws_toVector.b0 N (fun d0 => K (.agg [⟨.u8, 8, d0⟩]) []) (fun i1 gv2 => L0 (laws_toVector.st0 av0 i1 gv2)) (fun ov3 => (laws_toVector.k0 N K) (.exit 0) (laws_toVector.sx0_0 ov3)) av0 i1 gv2) := by
  have h := laws_toVector.b0_gen N K L0 (laws_toVector.k0 N K) av0 i1 gv2
  rw [laws_toVector.k0_mix] at h
  exact h
theorem laws_toVector.a0_0_eq {ρ : Type} (N : Nat) (K : AV → Heap → Option ρ) (ov3 : Nat → Int) :
    (laws_toVector.k0 N K) (.exit 0) (laws_toVector.sx0_0 ov3) = (laws_toVector.a0_0 N (fun d0 => K (.agg [⟨.u8, 8, d0⟩]) []) ov3) := by kernel_rfl
theorem laws_toVector.l0_eq {ρ : Type} (N : Nat) (K : AV → Heap → Option ρ) (av0 : Nat → Int) :
    ∀ (m : Nat) (i1 : Int) (gv2 : Nat → Int), xloop (xcode (E0 N) ents laws_toVector.kp 0 N (cL (cK (cB (cA (cB (cB laws_toVector.bd)))))) 0) laws_toVector.kp 0 0 m (laws_toVector.st0 av0 i1 gv2) (laws_toVector.k0 N K) = (laws_toVector.l0 N (fun d0 => K (.agg [⟨.u8, 8, d0⟩]) []) av0 (fun ov3 => (laws_toVector.k0 N K) (.exit 0) (laws_toVector.sx0_0 ov3)) m i1 gv2) := by
  intro m
  induction m with
  | zero => intros; rfl
  | succ m ih =>
    intro i1 gv2
    refine (laws_toVector.b0_eq N K (fun s => xloop (xcode (E0 N) ents laws_toVector.kp 0 N (cL (cK (cB (cA (cB (cB laws_toVector.bd)))))) 0) laws_toVector.kp 0 0 m s (laws_toVector.k0 N K)) av0 i1 gv2).trans ?_
    simp only [ih]
    kernel_rfl
theorem laws_toVector.s_eq {ρ : Type} (N : Nat) (K : AV → Heap → Option ρ) (av0 : Nat → Int) :
    xbody (E0 N) ents laws_toVector.kp N Try.f24 laws_toVector.bd [.agg [⟨.u8, 8, av0⟩]] [] K = (laws_toVector.s N (fun d0 => K (.agg [⟨.u8, 8, d0⟩]) []) (fun i1 gv2 => xloop (xcode (E0 N) ents laws_toVector.kp 0 N (cL (cK (cB (cA (cB (cB laws_toVector.bd)))))) 0) laws_toVector.kp 0 0 N (laws_toVector.st0 av0 i1 gv2) (laws_toVector.k0 N K))) := by kernel_rfl
theorem laws_toVector.eq {ρ : Type} (N : Nat) (K : AV → Heap → Option ρ) (av0 : Nat → Int) :
    xbody (E0 N) ents laws_toVector.kp N Try.f24 laws_toVector.bd [.agg [⟨.u8, 8, av0⟩]] [] K = (laws_toVector N (fun d0 => K (.agg [⟨.u8, 8, d0⟩]) []) av0) := by
  refine (laws_toVector.s_eq N K av0).trans ?_
  simp only [laws_toVector.l0_eq, laws_toVector.a0_0_eq]
  kernel_rfl
def laws_toVector.en (N : Nat) (ρ : Type) : List AV → Heap → (AV → Heap → Option ρ) → Option ρ
  | [.agg [⟨.u8, 8, av0⟩]], [], K => (laws_toVector N (fun d0 => K (.agg [⟨.u8, 8, d0⟩]) []) av0)
  | _, _, _ => none
theorem laws_toVector.en_ok (N : Nat) (hE : EnvOk (E0 N) ents) (ρ : Type) (args : List AV) (sh : Heap) (K : AV → Heap → Option ρ) (r : ρ) (h : laws_toVector.en N ρ args sh K = some r) : ∃ v sh', K v sh' = some r ∧ FnOk (E0 N).P 24 args sh v sh' := by
  unfold laws_toVector.en at h
  split at h
  · exact fn_ok hE (kp := laws_toVector.kp) (N := N) Try.func24 (c := laws_toVector.bd) (by kernel_rfl) ((laws_toVector.eq N _ _).trans h)
  · cases h
def E1 (N : Nat) : Env := (E0 N).add 24 (laws_toVector.en N)
theorem E1_ok (N : Nat) : EnvOk (E1 N) ents := Env.add_ok (E0_ok N) (laws_toVector.en_ok N (E0_ok N))
def laws_toLinear.kp : Keeps := ⟨[(0, [1, 2, 3, 4], [], [])], [(0, [2, 3], [], [])], []⟩
def laws_toLinear.bd : Code := bodyOf Try.f94
def laws_toLinear.fin {ρ : Type} (N : Nat) (K : AV → Heap → Option ρ) : XE → St → Option ρ := finK (E1 N) laws_toLinear.kp.fins Try.f94 [] K
def laws_toLinear.k0 {ρ : Type} (N : Nat) (K : AV → Heap → Option ρ) : XE → St → Option ρ := (blockK laws_toLinear.kp 0 0 (seqK (xcode (E1 N) ents laws_toLinear.kp 0 N (cB (cB (cB laws_toLinear.bd))) 0) (laws_toLinear.fin N K)))
theorem laws_toLinear.k0_mix {ρ : Type} (N : Nat) (K : AV → Heap → Option ρ) : mixK (laws_toLinear.fin N K .ret) (laws_toLinear.k0 N K) = (laws_toLinear.k0 N K) := by
  funext e s; cases e <;> kernel_rfl
def laws_toLinear.st0 (av0 : Nat → Int) (i1 : Int) (gv2 : Nat → Int) : St := ⟨sl 16 [(1, .sptr [(0, 64)]), (2, .sptr [(1, 64)]), (3, .sptr [(2, 64)]), (4, .int .i64 (i1))], [⟨true, .flat 64 (.ints .u8 av0)⟩, ⟨true, .flat 64 (.ints .u8 (fun _ => 0))⟩, ⟨true, .flat 64 (.ints .u8 gv2)⟩]⟩
def laws_toLinear.sx0_0 (ov4 : Nat → Int) : St := ⟨sl 16 [(2, .sptr [(0, 64)]), (3, .sptr [(1, 64)])], [⟨true, .flat 64 (.ints .u8 (fun _ => 0))⟩, ⟨true, .flat 64 (.ints .u8 ov4)⟩]⟩
theorem laws_toLinear.b0_gen {ρ : Type} (N : Nat) (K : AV → Heap → Option ρ) (L0 : St → Option ρ) (kv : XE → St → Option ρ) (av0 : Nat → Int) (i1 : Int) (gv2 : Nat → Int) :
    xcode (E1 N) ents laws_toLinear.kp 0 N (cL (cK (cB (cA (cB (cB laws_toLinear.bd)))))) 0 (laws_toLinear.st0 av0 i1 gv2) (roundK laws_toLinear.kp 0 0 L0 (mixK (laws_toLinear.fin N K .ret) kv)) = (laws_toLinear.b0 N (fun d0 => K (.agg [⟨.u8, 64, d0⟩]) []) (fun i1 gv2 => L0 (laws_toLinear.st0 av0 i1 gv2)) (fun ov4 => kv (.exit 0) (laws_toLinear.sx0_0 ov4)) av0 i1 gv2) := by kernel_rfl
theorem laws_toLinear.b0_eq {ρ : Type} (N : Nat) (K : AV → Heap → Option ρ) (L0 : St → Option ρ) (av0 : Nat → Int) (i1 : Int) (gv2 : Nat → Int) :
    xcode (E1 N) ents laws_toLinear.kp 0 N (cL (cK (cB (cA (cB (cB laws_toLinear.bd)))))) 0 (laws_toLinear.st0 av0 i1 gv2) (roundK laws_toLinear.kp 0 0 L0 (laws_toLinear.k0 N K)) = (laws_toLinear.b0 N (fun d0 => K (.agg [⟨.u8, 64, d0⟩]) []) (fun i1 gv2 => L0 (laws_toLinear.st0 av0 i1 gv2)) (fun ov4 => (laws_toLinear.k0 N K) (.exit 0) (laws_toLinear.sx0_0 ov4)) av0 i1 gv2) := by
  have h := laws_toLinear.b0_gen N K L0 (laws_toLinear.k0 N K) av0 i1 gv2
  rw [laws_toLinear.k0_mix] at h
  exact h
theorem laws_toLinear.a0_0_eq {ρ : Type} (N : Nat) (K : AV → Heap → Option ρ) (ov4 : Nat → Int) :
    (laws_toLinear.k0 N K) (.exit 0) (laws_toLinear.sx0_0 ov4) = (laws_toLinear.a0_0 N (fun d0 => K (.agg [⟨.u8, 64, d0⟩]) []) ov4) := by kernel_rfl
theorem laws_toLinear.l0_eq {ρ : Type} (N : Nat) (K : AV → Heap → Option ρ) (av0 : Nat → Int) :
    ∀ (m : Nat) (i1 : Int) (gv2 : Nat → Int), xloop (xcode (E1 N) ents laws_toLinear.kp 0 N (cL (cK (cB (cA (cB (cB laws_toLinear.bd)))))) 0) laws_toLinear.kp 0 0 m (laws_toLinear.st0 av0 i1 gv2) (laws_toLinear.k0 N K) = (laws_toLinear.l0 N (fun d0 => K (.agg [⟨.u8, 64, d0⟩]) []) av0 (fun ov4 => (laws_toLinear.k0 N K) (.exit 0) (laws_toLinear.sx0_0 ov4)) m i1 gv2) := by
  intro m
  induction m with
  | zero => intros; rfl
  | succ m ih =>
    intro i1 gv2
    refine (laws_toLinear.b0_eq N K (fun s => xloop (xcode (E1 N) ents laws_toLinear.kp 0 N (cL (cK (cB (cA (cB (cB laws_toLinear.bd)))))) 0) laws_toLinear.kp 0 0 m s (laws_toLinear.k0 N K)) av0 i1 gv2).trans ?_
    simp only [ih]
    kernel_rfl
theorem laws_toLinear.s_eq {ρ : Type} (N : Nat) (K : AV → Heap → Option ρ) (av0 : Nat → Int) :
    xbody (E1 N) ents laws_toLinear.kp N Try.f94 laws_toLinear.bd [.agg [⟨.u8, 64, av0⟩]] [] K = (laws_toLinear.s N (fun d0 => K (.agg [⟨.u8, 64, d0⟩]) []) (fun i1 gv2 => xloop (xcode (E1 N) ents laws_toLinear.kp 0 N (cL (cK (cB (cA (cB (cB laws_toLinear.bd)))))) 0) laws_toLinear.kp 0 0 N (laws_toLinear.st0 av0 i1 gv2) (laws_toLinear.k0 N K))) := by kernel_rfl
theorem laws_toLinear.eq {ρ : Type} (N : Nat) (K : AV → Heap → Option ρ) (av0 : Nat → Int) :
    xbody (E1 N) ents laws_toLinear.kp N Try.f94 laws_toLinear.bd [.agg [⟨.u8, 64, av0⟩]] [] K = (laws_toLinear N (fun d0 => K (.agg [⟨.u8, 64, d0⟩]) []) av0) := by
  refine (laws_toLinear.s_eq N K av0).trans ?_
  simp only [laws_toLinear.l0_eq, laws_toLinear.a0_0_eq]
  kernel_rfl
def laws_toLinear.en (N : Nat) (ρ : Type) : List AV → Heap → (AV → Heap → Option ρ) → Option ρ
  | [.agg [⟨.u8, 64, av0⟩]], [], K => (laws_toLinear N (fun d0 => K (.agg [⟨.u8, 64, d0⟩]) []) av0)
  | _, _, _ => none
theorem laws_toLinear.en_ok (N : Nat) (hE : EnvOk (E1 N) ents) (ρ : Type) (args : List AV) (sh : Heap) (K : AV → Heap → Option ρ) (r : ρ) (h : laws_toLinear.en N ρ args sh K = some r) : ∃ v sh', K v sh' = some r ∧ FnOk (E1 N).P 94 args sh v sh' := by
  unfold laws_toLinear.en at h
  split at h
  · exact fn_ok hE (kp := laws_toLinear.kp) (N := N) Try.func94 (c := laws_toLinear.bd) (by kernel_rfl) ((laws_toLinear.eq N _ _).trans h)
  · cases h
def E2 (N : Nat) : Env := (E1 N).add 94 (laws_toLinear.en N)
theorem E2_ok (N : Nat) : EnvOk (E2 N) ents := Env.add_ok (E1_ok N) (laws_toLinear.en_ok N (E1_ok N))
def laws_toTable.kp : Keeps := ⟨[(0, [1, 2, 3, 4], [], [])], [(0, [2, 3], [], [])], []⟩
def laws_toTable.bd : Code := bodyOf Try.f54
def laws_toTable.fin {ρ : Type} (N : Nat) (K : AV → Heap → Option ρ) : XE → St → Option ρ := finK (E2 N) laws_toTable.kp.fins Try.f54 [] K
def laws_toTable.k0 {ρ : Type} (N : Nat) (K : AV → Heap → Option ρ) : XE → St → Option ρ := (blockK laws_toTable.kp 0 0 (seqK (xcode (E2 N) ents laws_toTable.kp 0 N (cB (cB (cB laws_toTable.bd))) 0) (laws_toTable.fin N K)))
theorem laws_toTable.k0_mix {ρ : Type} (N : Nat) (K : AV → Heap → Option ρ) : mixK (laws_toTable.fin N K .ret) (laws_toTable.k0 N K) = (laws_toTable.k0 N K) := by
  funext e s; cases e <;> kernel_rfl
def laws_toTable.st0 (av0 : Nat → Int) (i1 : Int) (gv2 : Nat → Int) : St := ⟨sl 16 [(1, .sptr [(0, 512)]), (2, .sptr [(1, 512)]), (3, .sptr [(2, 512)]), (4, .int .i64 (i1))], [⟨true, .flat 512 (.ints .u8 av0)⟩, ⟨true, .flat 512 (.ints .u8 (fun _ => 0))⟩, ⟨true, .flat 512 (.ints .u8 gv2)⟩]⟩
def laws_toTable.sx0_0 (ov4 : Nat → Int) : St := ⟨sl 16 [(2, .sptr [(0, 512)]), (3, .sptr [(1, 512)])], [⟨true, .flat 512 (.ints .u8 (fun _ => 0))⟩, ⟨true, .flat 512 (.ints .u8 ov4)⟩]⟩
theorem laws_toTable.b0_gen {ρ : Type} (N : Nat) (K : AV → Heap → Option ρ) (L0 : St → Option ρ) (kv : XE → St → Option ρ) (av0 : Nat → Int) (i1 : Int) (gv2 : Nat → Int) :
    xcode (E2 N) ents laws_toTable.kp 0 N (cL (cK (cB (cA (cB (cB laws_toTable.bd)))))) 0 (laws_toTable.st0 av0 i1 gv2) (roundK laws_toTable.kp 0 0 L0 (mixK (laws_toTable.fin N K .ret) kv)) = (laws_toTable.b0 N (fun d0 => K (.agg [⟨.u8, 512, d0⟩]) []) (fun i1 gv2 => L0 (laws_toTable.st0 av0 i1 gv2)) (fun ov4 => kv (.exit 0) (laws_toTable.sx0_0 ov4)) av0 i1 gv2) := by kernel_rfl
theorem laws_toTable.b0_eq {ρ : Type} (N : Nat) (K : AV → Heap → Option ρ) (L0 : St → Option ρ) (av0 : Nat → Int) (i1 : Int) (gv2 : Nat → Int) :
    xcode (E2 N) ents laws_toTable.kp 0 N (cL (cK (cB (cA (cB (cB laws_toTable.bd)))))) 0 (laws_toTable.st0 av0 i1 gv2) (roundK laws_toTable.kp 0 0 L0 (laws_toTable.k0 N K)) = (laws_toTable.b0 N (fun d0 => K (.agg [⟨.u8, 512, d0⟩]) []) (fun i1 gv2 => L0 (laws_toTable.st0 av0 i1 gv2)) (fun ov4 => (laws_toTable.k0 N K) (.exit 0) (laws_toTable.sx0_0 ov4)) av0 i1 gv2) := by
  have h := laws_toTable.b0_gen N K L0 (laws_toTable.k0 N K) av0 i1 gv2
  rw [laws_toTable.k0_mix] at h
  exact h
theorem laws_toTable.a0_0_eq {ρ : Type} (N : Nat) (K : AV → Heap → Option ρ) (ov4 : Nat → Int) :
    (laws_toTable.k0 N K) (.exit 0) (laws_toTable.sx0_0 ov4) = (laws_toTable.a0_0 N (fun d0 => K (.agg [⟨.u8, 512, d0⟩]) []) ov4) := by kernel_rfl
theorem laws_toTable.l0_eq {ρ : Type} (N : Nat) (K : AV → Heap → Option ρ) (av0 : Nat → Int) :
    ∀ (m : Nat) (i1 : Int) (gv2 : Nat → Int), xloop (xcode (E2 N) ents laws_toTable.kp 0 N (cL (cK (cB (cA (cB (cB laws_toTable.bd)))))) 0) laws_toTable.kp 0 0 m (laws_toTable.st0 av0 i1 gv2) (laws_toTable.k0 N K) = (laws_toTable.l0 N (fun d0 => K (.agg [⟨.u8, 512, d0⟩]) []) av0 (fun ov4 => (laws_toTable.k0 N K) (.exit 0) (laws_toTable.sx0_0 ov4)) m i1 gv2) := by
  intro m
  induction m with
  | zero => intros; rfl
  | succ m ih =>
    intro i1 gv2
    refine (laws_toTable.b0_eq N K (fun s => xloop (xcode (E2 N) ents laws_toTable.kp 0 N (cL (cK (cB (cA (cB (cB laws_toTable.bd)))))) 0) laws_toTable.kp 0 0 m s (laws_toTable.k0 N K)) av0 i1 gv2).trans ?_
    simp only [ih]
    kernel_rfl
theorem laws_toTable.s_eq {ρ : Type} (N : Nat) (K : AV → Heap → Option ρ) (av0 : Nat → Int) :
    xbody (E2 N) ents laws_toTable.kp N Try.f54 laws_toTable.bd [.agg [⟨.u8, 512, av0⟩]] [] K = (laws_toTable.s N (fun d0 => K (.agg [⟨.u8, 512, d0⟩]) []) (fun i1 gv2 => xloop (xcode (E2 N) ents laws_toTable.kp 0 N (cL (cK (cB (cA (cB (cB laws_toTable.bd)))))) 0) laws_toTable.kp 0 0 N (laws_toTable.st0 av0 i1 gv2) (laws_toTable.k0 N K))) := by kernel_rfl
theorem laws_toTable.eq {ρ : Type} (N : Nat) (K : AV → Heap → Option ρ) (av0 : Nat → Int) :
    xbody (E2 N) ents laws_toTable.kp N Try.f54 laws_toTable.bd [.agg [⟨.u8, 512, av0⟩]] [] K = (laws_toTable N (fun d0 => K (.agg [⟨.u8, 512, d0⟩]) []) av0) := by
  refine (laws_toTable.s_eq N K av0).trans ?_
  simp only [laws_toTable.l0_eq, laws_toTable.a0_0_eq]
  kernel_rfl
def laws_toTable.en (N : Nat) (ρ : Type) : List AV → Heap → (AV → Heap → Option ρ) → Option ρ
  | [.agg [⟨.u8, 512, av0⟩]], [], K => (laws_toTable N (fun d0 => K (.agg [⟨.u8, 512, d0⟩]) []) av0)
  | _, _, _ => none
theorem laws_toTable.en_ok (N : Nat) (hE : EnvOk (E2 N) ents) (ρ : Type) (args : List AV) (sh : Heap) (K : AV → Heap → Option ρ) (r : ρ) (h : laws_toTable.en N ρ args sh K = some r) : ∃ v sh', K v sh' = some r ∧ FnOk (E2 N).P 54 args sh v sh' := by
  unfold laws_toTable.en at h
  split at h
  · exact fn_ok hE (kp := laws_toTable.kp) (N := N) Try.func54 (c := laws_toTable.bd) (by kernel_rfl) ((laws_toTable.eq N _ _).trans h)
  · cases h
def E3 (N : Nat) : Env := (E2 N).add 54 (laws_toTable.en N)
theorem E3_ok (N : Nat) : EnvOk (E3 N) ents := Env.add_ok (E2_ok N) (laws_toTable.en_ok N (E2_ok N))
def laws_toCoalgebra.kp : Keeps := ⟨[], [], []⟩
def laws_toCoalgebra.bd : Code := bodyOf Try.f16
def laws_toCoalgebra.fin {ρ : Type} (N : Nat) (K : AV → Heap → Option ρ) : XE → St → Option ρ := finK (E3 N) laws_toCoalgebra.kp.fins Try.f16 [] K
theorem laws_toCoalgebra.eq {ρ : Type} (N : Nat) (K : AV → Heap → Option ρ) (av0 : Nat → Int) (av1 : Nat → Int) :
    xbody (E3 N) ents laws_toCoalgebra.kp N Try.f16 laws_toCoalgebra.bd [.agg [⟨.i64, 2, av0⟩, ⟨.u8, 520, av1⟩]] [] K = (laws_toCoalgebra N (fun d0 d1 => K (.agg [⟨.i64, 2, d0⟩, ⟨.u8, 520, d1⟩]) []) av0 av1) := by kernel_rfl
def laws_toCoalgebra.en (N : Nat) (ρ : Type) : List AV → Heap → (AV → Heap → Option ρ) → Option ρ
  | [.agg [⟨.i64, 2, av0⟩, ⟨.u8, 520, av1⟩]], [], K => (laws_toCoalgebra N (fun d0 d1 => K (.agg [⟨.i64, 2, d0⟩, ⟨.u8, 520, d1⟩]) []) av0 av1)
  | _, _, _ => none
theorem laws_toCoalgebra.en_ok (N : Nat) (hE : EnvOk (E3 N) ents) (ρ : Type) (args : List AV) (sh : Heap) (K : AV → Heap → Option ρ) (r : ρ) (h : laws_toCoalgebra.en N ρ args sh K = some r) : ∃ v sh', K v sh' = some r ∧ FnOk (E3 N).P 16 args sh v sh' := by
  unfold laws_toCoalgebra.en at h
  split at h
  · exact fn_ok hE (kp := laws_toCoalgebra.kp) (N := N) Try.func16 (c := laws_toCoalgebra.bd) (by kernel_rfl) ((laws_toCoalgebra.eq N _ _ _).trans h)
  · cases h
def E4 (N : Nat) : Env := (E3 N).add 16 (laws_toCoalgebra.en N)
theorem E4_ok (N : Nat) : EnvOk (E4 N) ents := Env.add_ok (E3_ok N) (laws_toCoalgebra.en_ok N (E3_ok N))
def spec_l01In.kp : Keeps := ⟨[], [], []⟩
def spec_l01In.bd : Code := bodyOf Try.f130
def spec_l01In.fin {ρ : Type} (N : Nat) (K : AV → Heap → Option ρ) : XE → St → Option ρ := finK (E4 N) spec_l01In.kp.fins Try.f130 [] K
theorem spec_l01In.eq {ρ : Type} (N : Nat) (K : AV → Heap → Option ρ) (nv0 : Int) (low1 : Int) (high2 : Int) :
    xbody (E4 N) ents spec_l01In.kp N Try.f130 spec_l01In.bd [.int .i64 (nv0), .int .i64 (low1), .int .i64 (high2)] [] K = (spec_l01In N (fun d0 => K (.bool (d0)) []) nv0 low1 high2) := by kernel_rfl
def spec_l01In.en (N : Nat) (ρ : Type) : List AV → Heap → (AV → Heap → Option ρ) → Option ρ
  | [.int .i64 (nv0), .int .i64 (low1), .int .i64 (high2)], [], K => (spec_l01In N (fun d0 => K (.bool (d0)) []) nv0 low1 high2)
  | _, _, _ => none
theorem spec_l01In.en_ok (N : Nat) (hE : EnvOk (E4 N) ents) (ρ : Type) (args : List AV) (sh : Heap) (K : AV → Heap → Option ρ) (r : ρ) (h : spec_l01In.en N ρ args sh K = some r) : ∃ v sh', K v sh' = some r ∧ FnOk (E4 N).P 130 args sh v sh' := by
  unfold spec_l01In.en at h
  split at h
  · exact fn_ok hE (kp := spec_l01In.kp) (N := N) Try.func130 (c := spec_l01In.bd) (by kernel_rfl) ((spec_l01In.eq N _ _ _ _).trans h)
  · cases h
def E5 (N : Nat) : Env := (E4 N).add 130 (spec_l01In.en N)
theorem E5_ok (N : Nat) : EnvOk (E5 N) ents := Env.add_ok (E4_ok N) (spec_l01In.en_ok N (E4_ok N))
def spec_l01Prime.kp : Keeps := ⟨[(0, [0, 3], [], [])], [(0, [0], [], [])], []⟩
def spec_l01Prime.bd : Code := bodyOf Try.f129
def spec_l01Prime.fin {ρ : Type} (N : Nat) (K : AV → Heap → Option ρ) : XE → St → Option ρ := finK (E5 N) spec_l01Prime.kp.fins Try.f129 [] K
def spec_l01Prime.k0 {ρ : Type} (N : Nat) (K : AV → Heap → Option ρ) : XE → St → Option ρ := (blockK spec_l01Prime.kp 0 0 (seqK (xcode (E5 N) ents spec_l01Prime.kp 0 N (cB (cB spec_l01Prime.bd)) 0) (spec_l01Prime.fin N K)))
theorem spec_l01Prime.k0_mix {ρ : Type} (N : Nat) (K : AV → Heap → Option ρ) : mixK (spec_l01Prime.fin N K .ret) (spec_l01Prime.k0 N K) = (spec_l01Prime.k0 N K) := by
  funext e s; cases e <;> kernel_rfl
def spec_l01Prime.st0 (p0 : Int) (k1 : Int) : St := ⟨sl 19 [(0, .int .i64 (p0)), (3, .int .i64 (k1))], []⟩
def spec_l01Prime.sx0_0 (p0 : Int) : St := ⟨sl 19 [(0, .int .i64 (p0))], []⟩
theorem spec_l01Prime.b0_gen {ρ : Type} (N : Nat) (K : AV → Heap → Option ρ) (L0 : St → Option ρ) (kv : XE → St → Option ρ) (p0 : Int) (k1 : Int) :
    xcode (E5 N) ents spec_l01Prime.kp 0 N (cL (cK (cB (cA (cB spec_l01Prime.bd))))) 0 (spec_l01Prime.st0 p0 k1) (roundK spec_l01Prime.kp 0 0 L0 (mixK (spec_l01Prime.fin N K .ret) kv)) = (spec_l01Prime.b0 N (fun d0 => K (.bool (d0)) []) (fun k1 => L0 (spec_l01Prime.st0 p0 k1)) (kv (.exit 0) (spec_l01Prime.sx0_0 p0)) p0 k1) := by kernel_rfl
theorem spec_l01Prime.b0_eq {ρ : Type} (N : Nat) (K : AV → Heap → Option ρ) (L0 : St → Option ρ) (p0 : Int) (k1 : Int) :
    xcode (E5 N) ents spec_l01Prime.kp 0 N (cL (cK (cB (cA (cB spec_l01Prime.bd))))) 0 (spec_l01Prime.st0 p0 k1) (roundK spec_l01Prime.kp 0 0 L0 (spec_l01Prime.k0 N K)) = (spec_l01Prime.b0 N (fun d0 => K (.bool (d0)) []) (fun k1 => L0 (spec_l01Prime.st0 p0 k1)) ((spec_l01Prime.k0 N K) (.exit 0) (spec_l01Prime.sx0_0 p0)) p0 k1) := by
  have h := spec_l01Prime.b0_gen N K L0 (spec_l01Prime.k0 N K) p0 k1
  rw [spec_l01Prime.k0_mix] at h
  exact h
theorem spec_l01Prime.a0_0_eq {ρ : Type} (N : Nat) (K : AV → Heap → Option ρ) (p0 : Int) :
    (spec_l01Prime.k0 N K) (.exit 0) (spec_l01Prime.sx0_0 p0) = (spec_l01Prime.a0_0 N (fun d0 => K (.bool (d0)) []) p0) := by kernel_rfl
theorem spec_l01Prime.l0_eq {ρ : Type} (N : Nat) (K : AV → Heap → Option ρ) (p0 : Int) :
    ∀ (m : Nat) (k1 : Int), xloop (xcode (E5 N) ents spec_l01Prime.kp 0 N (cL (cK (cB (cA (cB spec_l01Prime.bd))))) 0) spec_l01Prime.kp 0 0 m (spec_l01Prime.st0 p0 k1) (spec_l01Prime.k0 N K) = (spec_l01Prime.l0 N (fun d0 => K (.bool (d0)) []) p0 ((spec_l01Prime.k0 N K) (.exit 0) (spec_l01Prime.sx0_0 p0)) m k1) := by
  intro m
  induction m with
  | zero => intros; rfl
  | succ m ih =>
    intro k1
    refine (spec_l01Prime.b0_eq N K (fun s => xloop (xcode (E5 N) ents spec_l01Prime.kp 0 N (cL (cK (cB (cA (cB spec_l01Prime.bd))))) 0) spec_l01Prime.kp 0 0 m s (spec_l01Prime.k0 N K)) p0 k1).trans ?_
    simp only [ih]
    kernel_rfl
theorem spec_l01Prime.s_eq {ρ : Type} (N : Nat) (K : AV → Heap → Option ρ) (p0 : Int) :
    xbody (E5 N) ents spec_l01Prime.kp N Try.f129 spec_l01Prime.bd [.int .i64 (p0)] [] K = (spec_l01Prime.s N (fun d0 => K (.bool (d0)) []) (fun k1 => xloop (xcode (E5 N) ents spec_l01Prime.kp 0 N (cL (cK (cB (cA (cB spec_l01Prime.bd))))) 0) spec_l01Prime.kp 0 0 N (spec_l01Prime.st0 p0 k1) (spec_l01Prime.k0 N K))) := by kernel_rfl
theorem spec_l01Prime.eq {ρ : Type} (N : Nat) (K : AV → Heap → Option ρ) (p0 : Int) :
    xbody (E5 N) ents spec_l01Prime.kp N Try.f129 spec_l01Prime.bd [.int .i64 (p0)] [] K = (spec_l01Prime N (fun d0 => K (.bool (d0)) []) p0) := by
  refine (spec_l01Prime.s_eq N K p0).trans ?_
  simp only [spec_l01Prime.l0_eq, spec_l01Prime.a0_0_eq]
  kernel_rfl
def spec_l01Prime.en (N : Nat) (ρ : Type) : List AV → Heap → (AV → Heap → Option ρ) → Option ρ
  | [.int .i64 (p0)], [], K => (spec_l01Prime N (fun d0 => K (.bool (d0)) []) p0)
  | _, _, _ => none
theorem spec_l01Prime.en_ok (N : Nat) (hE : EnvOk (E5 N) ents) (ρ : Type) (args : List AV) (sh : Heap) (K : AV → Heap → Option ρ) (r : ρ) (h : spec_l01Prime.en N ρ args sh K = some r) : ∃ v sh', K v sh' = some r ∧ FnOk (E5 N).P 129 args sh v sh' := by
  unfold spec_l01Prime.en at h
  split at h
  · exact fn_ok hE (kp := spec_l01Prime.kp) (N := N) Try.func129 (c := spec_l01Prime.bd) (by kernel_rfl) ((spec_l01Prime.eq N _ _).trans h)
  · cases h
def E6 (N : Nat) : Env := (E5 N).add 129 (spec_l01Prime.en N)
theorem E6_ok (N : Nat) : EnvOk (E6 N) ents := Env.add_ok (E5_ok N) (spec_l01Prime.en_ok N (E5_ok N))
def spec_l01Sizes.kp : Keeps := ⟨[], [], []⟩
def spec_l01Sizes.bd : Code := bodyOf Try.f100
def spec_l01Sizes.fin {ρ : Type} (N : Nat) (K : AV → Heap → Option ρ) : XE → St → Option ρ := finK (E6 N) spec_l01Sizes.kp.fins Try.f100 [] K
theorem spec_l01Sizes.eq {ρ : Type} (N : Nat) (K : AV → Heap → Option ρ) (p0 : Int) (nv1 : Int) :
    xbody (E6 N) ents spec_l01Sizes.kp N Try.f100 spec_l01Sizes.bd [.int .i64 (p0), .int .i64 (nv1)] [] K = (spec_l01Sizes N (fun d0 => K (.bool (d0)) []) p0 nv1) := by kernel_rfl
def spec_l01Sizes.en (N : Nat) (ρ : Type) : List AV → Heap → (AV → Heap → Option ρ) → Option ρ
  | [.int .i64 (p0), .int .i64 (nv1)], [], K => (spec_l01Sizes N (fun d0 => K (.bool (d0)) []) p0 nv1)
  | _, _, _ => none
theorem spec_l01Sizes.en_ok (N : Nat) (hE : EnvOk (E6 N) ents) (ρ : Type) (args : List AV) (sh : Heap) (K : AV → Heap → Option ρ) (r : ρ) (h : spec_l01Sizes.en N ρ args sh K = some r) : ∃ v sh', K v sh' = some r ∧ FnOk (E6 N).P 100 args sh v sh' := by
  unfold spec_l01Sizes.en at h
  split at h
  · exact fn_ok hE (kp := spec_l01Sizes.kp) (N := N) Try.func100 (c := spec_l01Sizes.bd) (by kernel_rfl) ((spec_l01Sizes.eq N _ _ _).trans h)
  · cases h
def E7 (N : Nat) : Env := (E6 N).add 100 (spec_l01Sizes.en N)
theorem E7_ok (N : Nat) : EnvOk (E7 N) ents := Env.add_ok (E6_ok N) (spec_l01Sizes.en_ok N (E6_ok N))
def spec_l01Vector.kp : Keeps := ⟨[(0, [0, 1, 5, 7], [], [])], [(0, [], [], [])], []⟩
def spec_l01Vector.bd : Code := bodyOf Try.f101
def spec_l01Vector.fin {ρ : Type} (N : Nat) (K : AV → Heap → Option ρ) : XE → St → Option ρ := finK (E7 N) spec_l01Vector.kp.fins Try.f101 [] K
def spec_l01Vector.k0 {ρ : Type} (N : Nat) (K : AV → Heap → Option ρ) : XE → St → Option ρ := (blockK spec_l01Vector.kp 0 0 (seqK (xcode (E7 N) ents spec_l01Vector.kp 0 N (cB (cB spec_l01Vector.bd)) 0) (spec_l01Vector.fin N K)))
theorem spec_l01Vector.k0_mix {ρ : Type} (N : Nat) (K : AV → Heap → Option ρ) : mixK (spec_l01Vector.fin N K .ret) (spec_l01Vector.k0 N K) = (spec_l01Vector.k0 N K) := by
  funext e s; cases e <;> kernel_rfl
def spec_l01Vector.st0 (p0 : Int) (nv1 : Int) (v2 : Nat → Int) (i3 : Int) : St := ⟨sl 29 [(0, .int .i64 (p0)), (1, .int .i64 (nv1)), (5, .sptr [(0, 8)]), (7, .int .i64 (i3))], [⟨true, .flat 8 (.ints .u8 v2)⟩]⟩
def spec_l01Vector.sx0_0 : St := ⟨sl 29 [], []⟩
theorem spec_l01Vector.b0_gen {ρ : Type} (N : Nat) (K : AV → Heap → Option ρ) (L0 : St → Option ρ) (kv : XE → St → Option ρ) (p0 : Int) (nv1 : Int) (v2 : Nat → Int) (i3 : Int) :
    xcode (E7 N) ents spec_l01Vector.kp 0 N (cL (cK (cB (cA (cB spec_l01Vector.bd))))) 0 (spec_l01Vector.st0 p0 nv1 v2 i3) (roundK spec_l01Vector.kp 0 0 L0 (mixK (spec_l01Vector.fin N K .ret) kv)) = (spec_l01Vector.b0 N (fun d0 => K (.bool (d0)) []) (fun i3 => L0 (spec_l01Vector.st0 p0 nv1 v2 i3)) (kv (.exit 0) (spec_l01Vector.sx0_0)) p0 nv1 v2 i3) := by kernel_rfl
theorem spec_l01Vector.b0_eq {ρ : Type} (N : Nat) (K : AV → Heap → Option ρ) (L0 : St → Option ρ) (p0 : Int) (nv1 : Int) (v2 : Nat → Int) (i3 : Int) :
    xcode (E7 N) ents spec_l01Vector.kp 0 N (cL (cK (cB (cA (cB spec_l01Vector.bd))))) 0 (spec_l01Vector.st0 p0 nv1 v2 i3) (roundK spec_l01Vector.kp 0 0 L0 (spec_l01Vector.k0 N K)) = (spec_l01Vector.b0 N (fun d0 => K (.bool (d0)) []) (fun i3 => L0 (spec_l01Vector.st0 p0 nv1 v2 i3)) ((spec_l01Vector.k0 N K) (.exit 0) (spec_l01Vector.sx0_0)) p0 nv1 v2 i3) := by
  have h := spec_l01Vector.b0_gen N K L0 (spec_l01Vector.k0 N K) p0 nv1 v2 i3
  rw [spec_l01Vector.k0_mix] at h
  exact h
theorem spec_l01Vector.a0_0_eq {ρ : Type} (N : Nat) (K : AV → Heap → Option ρ) :
    (spec_l01Vector.k0 N K) (.exit 0) (spec_l01Vector.sx0_0) = (spec_l01Vector.a0_0 N (fun d0 => K (.bool (d0)) [])) := by kernel_rfl
theorem spec_l01Vector.l0_eq {ρ : Type} (N : Nat) (K : AV → Heap → Option ρ) (p0 : Int) (nv1 : Int) (v2 : Nat → Int) :
    ∀ (m : Nat) (i3 : Int), xloop (xcode (E7 N) ents spec_l01Vector.kp 0 N (cL (cK (cB (cA (cB spec_l01Vector.bd))))) 0) spec_l01Vector.kp 0 0 m (spec_l01Vector.st0 p0 nv1 v2 i3) (spec_l01Vector.k0 N K) = (spec_l01Vector.l0 N (fun d0 => K (.bool (d0)) []) p0 nv1 v2 ((spec_l01Vector.k0 N K) (.exit 0) (spec_l01Vector.sx0_0)) m i3) := by
  intro m
  induction m with
  | zero => intros; rfl
  | succ m ih =>
    intro i3
    refine (spec_l01Vector.b0_eq N K (fun s => xloop (xcode (E7 N) ents spec_l01Vector.kp 0 N (cL (cK (cB (cA (cB spec_l01Vector.bd))))) 0) spec_l01Vector.kp 0 0 m s (spec_l01Vector.k0 N K)) p0 nv1 v2 i3).trans ?_
    simp only [ih]
    kernel_rfl
theorem spec_l01Vector.s_eq {ρ : Type} (N : Nat) (K : AV → Heap → Option ρ) (p0 : Int) (nv1 : Int) (v2 : Nat → Int) :
    xbody (E7 N) ents spec_l01Vector.kp N Try.f101 spec_l01Vector.bd [.int .i64 (p0), .int .i64 (nv1), .agg [⟨.u8, 8, v2⟩]] [] K = (spec_l01Vector.s N (fun d0 => K (.bool (d0)) []) (fun i3 => xloop (xcode (E7 N) ents spec_l01Vector.kp 0 N (cL (cK (cB (cA (cB spec_l01Vector.bd))))) 0) spec_l01Vector.kp 0 0 N (spec_l01Vector.st0 p0 nv1 v2 i3) (spec_l01Vector.k0 N K))) := by kernel_rfl
theorem spec_l01Vector.eq {ρ : Type} (N : Nat) (K : AV → Heap → Option ρ) (p0 : Int) (nv1 : Int) (v2 : Nat → Int) :
    xbody (E7 N) ents spec_l01Vector.kp N Try.f101 spec_l01Vector.bd [.int .i64 (p0), .int .i64 (nv1), .agg [⟨.u8, 8, v2⟩]] [] K = (spec_l01Vector N (fun d0 => K (.bool (d0)) []) p0 nv1 v2) := by
  refine (spec_l01Vector.s_eq N K p0 nv1 v2).trans ?_
  simp only [spec_l01Vector.l0_eq, spec_l01Vector.a0_0_eq]
  kernel_rfl
def spec_l01Vector.en (N : Nat) (ρ : Type) : List AV → Heap → (AV → Heap → Option ρ) → Option ρ
  | [.int .i64 (p0), .int .i64 (nv1), .agg [⟨.u8, 8, v2⟩]], [], K => (spec_l01Vector N (fun d0 => K (.bool (d0)) []) p0 nv1 v2)
  | _, _, _ => none
theorem spec_l01Vector.en_ok (N : Nat) (hE : EnvOk (E7 N) ents) (ρ : Type) (args : List AV) (sh : Heap) (K : AV → Heap → Option ρ) (r : ρ) (h : spec_l01Vector.en N ρ args sh K = some r) : ∃ v sh', K v sh' = some r ∧ FnOk (E7 N).P 101 args sh v sh' := by
  unfold spec_l01Vector.en at h
  split at h
  · exact fn_ok hE (kp := spec_l01Vector.kp) (N := N) Try.func101 (c := spec_l01Vector.bd) (by kernel_rfl) ((spec_l01Vector.eq N _ _ _ _).trans h)
  · cases h
def E8 (N : Nat) : Env := (E7 N).add 101 (spec_l01Vector.en N)
theorem E8_ok (N : Nat) : EnvOk (E8 N) ents := Env.add_ok (E7_ok N) (spec_l01Vector.en_ok N (E7_ok N))
def spec_l01Linear.kp : Keeps := ⟨[(0, [0, 1, 5, 7], [], [])], [(0, [], [], [])], []⟩
def spec_l01Linear.bd : Code := bodyOf Try.f131
def spec_l01Linear.fin {ρ : Type} (N : Nat) (K : AV → Heap → Option ρ) : XE → St → Option ρ := finK (E8 N) spec_l01Linear.kp.fins Try.f131 [] K
def spec_l01Linear.k0 {ρ : Type} (N : Nat) (K : AV → Heap → Option ρ) : XE → St → Option ρ := (blockK spec_l01Linear.kp 0 0 (seqK (xcode (E8 N) ents spec_l01Linear.kp 0 N (cB (cB spec_l01Linear.bd)) 0) (spec_l01Linear.fin N K)))
theorem spec_l01Linear.k0_mix {ρ : Type} (N : Nat) (K : AV → Heap → Option ρ) : mixK (spec_l01Linear.fin N K .ret) (spec_l01Linear.k0 N K) = (spec_l01Linear.k0 N K) := by
  funext e s; cases e <;> kernel_rfl
def spec_l01Linear.st0 (p0 : Int) (nv1 : Int) (f2 : Nat → Int) (i3 : Int) : St := ⟨sl 31 [(0, .int .i64 (p0)), (1, .int .i64 (nv1)), (5, .sptr [(0, 64)]), (7, .int .i64 (i3))], [⟨true, .flat 64 (.ints .u8 f2)⟩]⟩
def spec_l01Linear.sx0_0 : St := ⟨sl 31 [], []⟩
theorem spec_l01Linear.b0_gen {ρ : Type} (N : Nat) (K : AV → Heap → Option ρ) (L0 : St → Option ρ) (kv : XE → St → Option ρ) (p0 : Int) (nv1 : Int) (f2 : Nat → Int) (i3 : Int) :
    xcode (E8 N) ents spec_l01Linear.kp 0 N (cL (cK (cB (cA (cB spec_l01Linear.bd))))) 0 (spec_l01Linear.st0 p0 nv1 f2 i3) (roundK spec_l01Linear.kp 0 0 L0 (mixK (spec_l01Linear.fin N K .ret) kv)) = (spec_l01Linear.b0 N (fun d0 => K (.bool (d0)) []) (fun i3 => L0 (spec_l01Linear.st0 p0 nv1 f2 i3)) (kv (.exit 0) (spec_l01Linear.sx0_0)) p0 nv1 f2 i3) := by kernel_rfl
theorem spec_l01Linear.b0_eq {ρ : Type} (N : Nat) (K : AV → Heap → Option ρ) (L0 : St → Option ρ) (p0 : Int) (nv1 : Int) (f2 : Nat → Int) (i3 : Int) :
    xcode (E8 N) ents spec_l01Linear.kp 0 N (cL (cK (cB (cA (cB spec_l01Linear.bd))))) 0 (spec_l01Linear.st0 p0 nv1 f2 i3) (roundK spec_l01Linear.kp 0 0 L0 (spec_l01Linear.k0 N K)) = (spec_l01Linear.b0 N (fun d0 => K (.bool (d0)) []) (fun i3 => L0 (spec_l01Linear.st0 p0 nv1 f2 i3)) ((spec_l01Linear.k0 N K) (.exit 0) (spec_l01Linear.sx0_0)) p0 nv1 f2 i3) := by
  have h := spec_l01Linear.b0_gen N K L0 (spec_l01Linear.k0 N K) p0 nv1 f2 i3
  rw [spec_l01Linear.k0_mix] at h
  exact h
theorem spec_l01Linear.a0_0_eq {ρ : Type} (N : Nat) (K : AV → Heap → Option ρ) :
    (spec_l01Linear.k0 N K) (.exit 0) (spec_l01Linear.sx0_0) = (spec_l01Linear.a0_0 N (fun d0 => K (.bool (d0)) [])) := by kernel_rfl
theorem spec_l01Linear.l0_eq {ρ : Type} (N : Nat) (K : AV → Heap → Option ρ) (p0 : Int) (nv1 : Int) (f2 : Nat → Int) :
    ∀ (m : Nat) (i3 : Int), xloop (xcode (E8 N) ents spec_l01Linear.kp 0 N (cL (cK (cB (cA (cB spec_l01Linear.bd))))) 0) spec_l01Linear.kp 0 0 m (spec_l01Linear.st0 p0 nv1 f2 i3) (spec_l01Linear.k0 N K) = (spec_l01Linear.l0 N (fun d0 => K (.bool (d0)) []) p0 nv1 f2 ((spec_l01Linear.k0 N K) (.exit 0) (spec_l01Linear.sx0_0)) m i3) := by
  intro m
  induction m with
  | zero => intros; rfl
  | succ m ih =>
    intro i3
    refine (spec_l01Linear.b0_eq N K (fun s => xloop (xcode (E8 N) ents spec_l01Linear.kp 0 N (cL (cK (cB (cA (cB spec_l01Linear.bd))))) 0) spec_l01Linear.kp 0 0 m s (spec_l01Linear.k0 N K)) p0 nv1 f2 i3).trans ?_
    simp only [ih]
    kernel_rfl
theorem spec_l01Linear.s_eq {ρ : Type} (N : Nat) (K : AV → Heap → Option ρ) (p0 : Int) (nv1 : Int) (f2 : Nat → Int) :
    xbody (E8 N) ents spec_l01Linear.kp N Try.f131 spec_l01Linear.bd [.int .i64 (p0), .int .i64 (nv1), .agg [⟨.u8, 64, f2⟩]] [] K = (spec_l01Linear.s N (fun d0 => K (.bool (d0)) []) (fun i3 => xloop (xcode (E8 N) ents spec_l01Linear.kp 0 N (cL (cK (cB (cA (cB spec_l01Linear.bd))))) 0) spec_l01Linear.kp 0 0 N (spec_l01Linear.st0 p0 nv1 f2 i3) (spec_l01Linear.k0 N K))) := by kernel_rfl
theorem spec_l01Linear.eq {ρ : Type} (N : Nat) (K : AV → Heap → Option ρ) (p0 : Int) (nv1 : Int) (f2 : Nat → Int) :
    xbody (E8 N) ents spec_l01Linear.kp N Try.f131 spec_l01Linear.bd [.int .i64 (p0), .int .i64 (nv1), .agg [⟨.u8, 64, f2⟩]] [] K = (spec_l01Linear N (fun d0 => K (.bool (d0)) []) p0 nv1 f2) := by
  refine (spec_l01Linear.s_eq N K p0 nv1 f2).trans ?_
  simp only [spec_l01Linear.l0_eq, spec_l01Linear.a0_0_eq]
  kernel_rfl
def spec_l01Linear.en (N : Nat) (ρ : Type) : List AV → Heap → (AV → Heap → Option ρ) → Option ρ
  | [.int .i64 (p0), .int .i64 (nv1), .agg [⟨.u8, 64, f2⟩]], [], K => (spec_l01Linear N (fun d0 => K (.bool (d0)) []) p0 nv1 f2)
  | _, _, _ => none
theorem spec_l01Linear.en_ok (N : Nat) (hE : EnvOk (E8 N) ents) (ρ : Type) (args : List AV) (sh : Heap) (K : AV → Heap → Option ρ) (r : ρ) (h : spec_l01Linear.en N ρ args sh K = some r) : ∃ v sh', K v sh' = some r ∧ FnOk (E8 N).P 131 args sh v sh' := by
  unfold spec_l01Linear.en at h
  split at h
  · exact fn_ok hE (kp := spec_l01Linear.kp) (N := N) Try.func131 (c := spec_l01Linear.bd) (by kernel_rfl) ((spec_l01Linear.eq N _ _ _ _).trans h)
  · cases h
def E9 (N : Nat) : Env := (E8 N).add 131 (spec_l01Linear.en N)
theorem E9_ok (N : Nat) : EnvOk (E9 N) ents := Env.add_ok (E8_ok N) (spec_l01Linear.en_ok N (E8_ok N))
def spec_l01Table.kp : Keeps := ⟨[(0, [0, 1, 5, 7], [], [])], [(0, [], [], [])], []⟩
def spec_l01Table.bd : Code := bodyOf Try.f102
def spec_l01Table.fin {ρ : Type} (N : Nat) (K : AV → Heap → Option ρ) : XE → St → Option ρ := finK (E9 N) spec_l01Table.kp.fins Try.f102 [] K
def spec_l01Table.k0 {ρ : Type} (N : Nat) (K : AV → Heap → Option ρ) : XE → St → Option ρ := (blockK spec_l01Table.kp 0 0 (seqK (xcode (E9 N) ents spec_l01Table.kp 0 N (cB (cB spec_l01Table.bd)) 0) (spec_l01Table.fin N K)))
theorem spec_l01Table.k0_mix {ρ : Type} (N : Nat) (K : AV → Heap → Option ρ) : mixK (spec_l01Table.fin N K .ret) (spec_l01Table.k0 N K) = (spec_l01Table.k0 N K) := by
  funext e s; cases e <;> kernel_rfl
def spec_l01Table.st0 (p0 : Int) (nv1 : Int) (t2 : Nat → Int) (i3 : Int) : St := ⟨sl 31 [(0, .int .i64 (p0)), (1, .int .i64 (nv1)), (5, .sptr [(0, 512)]), (7, .int .i64 (i3))], [⟨true, .flat 512 (.ints .u8 t2)⟩]⟩
def spec_l01Table.sx0_0 : St := ⟨sl 31 [], []⟩
theorem spec_l01Table.b0_gen {ρ : Type} (N : Nat) (K : AV → Heap → Option ρ) (L0 : St → Option ρ) (kv : XE → St → Option ρ) (p0 : Int) (nv1 : Int) (t2 : Nat → Int) (i3 : Int) :
    xcode (E9 N) ents spec_l01Table.kp 0 N (cL (cK (cB (cA (cB spec_l01Table.bd))))) 0 (spec_l01Table.st0 p0 nv1 t2 i3) (roundK spec_l01Table.kp 0 0 L0 (mixK (spec_l01Table.fin N K .ret) kv)) = (spec_l01Table.b0 N (fun d0 => K (.bool (d0)) []) (fun i3 => L0 (spec_l01Table.st0 p0 nv1 t2 i3)) (kv (.exit 0) (spec_l01Table.sx0_0)) p0 nv1 t2 i3) := by kernel_rfl
theorem spec_l01Table.b0_eq {ρ : Type} (N : Nat) (K : AV → Heap → Option ρ) (L0 : St → Option ρ) (p0 : Int) (nv1 : Int) (t2 : Nat → Int) (i3 : Int) :
    xcode (E9 N) ents spec_l01Table.kp 0 N (cL (cK (cB (cA (cB spec_l01Table.bd))))) 0 (spec_l01Table.st0 p0 nv1 t2 i3) (roundK spec_l01Table.kp 0 0 L0 (spec_l01Table.k0 N K)) = (spec_l01Table.b0 N (fun d0 => K (.bool (d0)) []) (fun i3 => L0 (spec_l01Table.st0 p0 nv1 t2 i3)) ((spec_l01Table.k0 N K) (.exit 0) (spec_l01Table.sx0_0)) p0 nv1 t2 i3) := by
  have h := spec_l01Table.b0_gen N K L0 (spec_l01Table.k0 N K) p0 nv1 t2 i3
  rw [spec_l01Table.k0_mix] at h
  exact h
theorem spec_l01Table.a0_0_eq {ρ : Type} (N : Nat) (K : AV → Heap → Option ρ) :
    (spec_l01Table.k0 N K) (.exit 0) (spec_l01Table.sx0_0) = (spec_l01Table.a0_0 N (fun d0 => K (.bool (d0)) [])) := by kernel_rfl
theorem spec_l01Table.l0_eq {ρ : Type} (N : Nat) (K : AV → Heap → Option ρ) (p0 : Int) (nv1 : Int) (t2 : Nat → Int) :
    ∀ (m : Nat) (i3 : Int), xloop (xcode (E9 N) ents spec_l01Table.kp 0 N (cL (cK (cB (cA (cB spec_l01Table.bd))))) 0) spec_l01Table.kp 0 0 m (spec_l01Table.st0 p0 nv1 t2 i3) (spec_l01Table.k0 N K) = (spec_l01Table.l0 N (fun d0 => K (.bool (d0)) []) p0 nv1 t2 ((spec_l01Table.k0 N K) (.exit 0) (spec_l01Table.sx0_0)) m i3) := by
  intro m
  induction m with
  | zero => intros; rfl
  | succ m ih =>
    intro i3
    refine (spec_l01Table.b0_eq N K (fun s => xloop (xcode (E9 N) ents spec_l01Table.kp 0 N (cL (cK (cB (cA (cB spec_l01Table.bd))))) 0) spec_l01Table.kp 0 0 m s (spec_l01Table.k0 N K)) p0 nv1 t2 i3).trans ?_
    simp only [ih]
    kernel_rfl
theorem spec_l01Table.s_eq {ρ : Type} (N : Nat) (K : AV → Heap → Option ρ) (p0 : Int) (nv1 : Int) (t2 : Nat → Int) :
    xbody (E9 N) ents spec_l01Table.kp N Try.f102 spec_l01Table.bd [.int .i64 (p0), .int .i64 (nv1), .agg [⟨.u8, 512, t2⟩]] [] K = (spec_l01Table.s N (fun d0 => K (.bool (d0)) []) (fun i3 => xloop (xcode (E9 N) ents spec_l01Table.kp 0 N (cL (cK (cB (cA (cB spec_l01Table.bd))))) 0) spec_l01Table.kp 0 0 N (spec_l01Table.st0 p0 nv1 t2 i3) (spec_l01Table.k0 N K))) := by kernel_rfl
theorem spec_l01Table.eq {ρ : Type} (N : Nat) (K : AV → Heap → Option ρ) (p0 : Int) (nv1 : Int) (t2 : Nat → Int) :
    xbody (E9 N) ents spec_l01Table.kp N Try.f102 spec_l01Table.bd [.int .i64 (p0), .int .i64 (nv1), .agg [⟨.u8, 512, t2⟩]] [] K = (spec_l01Table N (fun d0 => K (.bool (d0)) []) p0 nv1 t2) := by
  refine (spec_l01Table.s_eq N K p0 nv1 t2).trans ?_
  simp only [spec_l01Table.l0_eq, spec_l01Table.a0_0_eq]
  kernel_rfl
def spec_l01Table.en (N : Nat) (ρ : Type) : List AV → Heap → (AV → Heap → Option ρ) → Option ρ
  | [.int .i64 (p0), .int .i64 (nv1), .agg [⟨.u8, 512, t2⟩]], [], K => (spec_l01Table N (fun d0 => K (.bool (d0)) []) p0 nv1 t2)
  | _, _, _ => none
theorem spec_l01Table.en_ok (N : Nat) (hE : EnvOk (E9 N) ents) (ρ : Type) (args : List AV) (sh : Heap) (K : AV → Heap → Option ρ) (r : ρ) (h : spec_l01Table.en N ρ args sh K = some r) : ∃ v sh', K v sh' = some r ∧ FnOk (E9 N).P 102 args sh v sh' := by
  unfold spec_l01Table.en at h
  split at h
  · exact fn_ok hE (kp := spec_l01Table.kp) (N := N) Try.func102 (c := spec_l01Table.bd) (by kernel_rfl) ((spec_l01Table.eq N _ _ _ _).trans h)
  · cases h
def E10 (N : Nat) : Env := (E9 N).add 102 (spec_l01Table.en N)
theorem E10_ok (N : Nat) : EnvOk (E10 N) ents := Env.add_ok (E9_ok N) (spec_l01Table.en_ok N (E9_ok N))
def spec_l02Shape.kp : Keeps := ⟨[], [], []⟩
def spec_l02Shape.bd : Code := bodyOf Try.f58
def spec_l02Shape.fin {ρ : Type} (N : Nat) (K : AV → Heap → Option ρ) : XE → St → Option ρ := finK (E10 N) spec_l02Shape.kp.fins Try.f58 [] K
theorem spec_l02Shape.eq {ρ : Type} (N : Nat) (K : AV → Heap → Option ρ) (c0 : Nat → Int) (c1 : Nat → Int) :
    xbody (E10 N) ents spec_l02Shape.kp N Try.f58 spec_l02Shape.bd [.agg [⟨.i64, 2, c0⟩, ⟨.u8, 520, c1⟩]] [] K = (spec_l02Shape N (fun d0 => K (.bool (d0)) []) c0 c1) := by kernel_rfl
def spec_l02Shape.en (N : Nat) (ρ : Type) : List AV → Heap → (AV → Heap → Option ρ) → Option ρ
  | [.agg [⟨.i64, 2, c0⟩, ⟨.u8, 520, c1⟩]], [], K => (spec_l02Shape N (fun d0 => K (.bool (d0)) []) c0 c1)
  | _, _, _ => none
theorem spec_l02Shape.en_ok (N : Nat) (hE : EnvOk (E10 N) ents) (ρ : Type) (args : List AV) (sh : Heap) (K : AV → Heap → Option ρ) (r : ρ) (h : spec_l02Shape.en N ρ args sh K = some r) : ∃ v sh', K v sh' = some r ∧ FnOk (E10 N).P 58 args sh v sh' := by
  unfold spec_l02Shape.en at h
  split at h
  · exact fn_ok hE (kp := spec_l02Shape.kp) (N := N) Try.func58 (c := spec_l02Shape.bd) (by kernel_rfl) ((spec_l02Shape.eq N _ _ _).trans h)
  · cases h
def E11 (N : Nat) : Env := (E10 N).add 58 (spec_l02Shape.en N)
theorem E11_ok (N : Nat) : EnvOk (E11 N) ents := Env.add_ok (E10_ok N) (spec_l02Shape.en_ok N (E10_ok N))
def spec_l01Mod.kp : Keeps := ⟨[], [], []⟩
def spec_l01Mod.bd : Code := bodyOf Try.f109
def spec_l01Mod.fin {ρ : Type} (N : Nat) (K : AV → Heap → Option ρ) : XE → St → Option ρ := finK (E11 N) spec_l01Mod.kp.fins Try.f109 [] K
theorem spec_l01Mod.eq {ρ : Type} (N : Nat) (K : AV → Heap → Option ρ) (p0 : Int) (x1 : Int) :
    xbody (E11 N) ents spec_l01Mod.kp N Try.f109 spec_l01Mod.bd [.int .i64 (p0), .int .i64 (x1)] [] K = (spec_l01Mod N (fun d0 => K (.int .u8 (d0)) []) p0 x1) := by kernel_rfl
def spec_l01Mod.en (N : Nat) (ρ : Type) : List AV → Heap → (AV → Heap → Option ρ) → Option ρ
  | [.int .i64 (p0), .int .i64 (x1)], [], K => (spec_l01Mod N (fun d0 => K (.int .u8 (d0)) []) p0 x1)
  | _, _, _ => none
theorem spec_l01Mod.en_ok (N : Nat) (hE : EnvOk (E11 N) ents) (ρ : Type) (args : List AV) (sh : Heap) (K : AV → Heap → Option ρ) (r : ρ) (h : spec_l01Mod.en N ρ args sh K = some r) : ∃ v sh', K v sh' = some r ∧ FnOk (E11 N).P 109 args sh v sh' := by
  unfold spec_l01Mod.en at h
  split at h
  · exact fn_ok hE (kp := spec_l01Mod.kp) (N := N) Try.func109 (c := spec_l01Mod.bd) (by kernel_rfl) ((spec_l01Mod.eq N _ _ _).trans h)
  · cases h
def E12 (N : Nat) : Env := (E11 N).add 109 (spec_l01Mod.en N)
theorem E12_ok (N : Nat) : EnvOk (E12 N) ents := Env.add_ok (E11_ok N) (spec_l01Mod.en_ok N (E11_ok N))
def spec_l02Sums.kp : Keeps := ⟨[(0, [1, 2, 3, 4, 5, 12, 13, 14], [], [])], [(0, [5, 12, 13], [], [])], []⟩
def spec_l02Sums.bd : Code := bodyOf Try.f103
def spec_l02Sums.fin {ρ : Type} (N : Nat) (K : AV → Heap → Option ρ) : XE → St → Option ρ := finK (E12 N) spec_l02Sums.kp.fins Try.f103 [] K
def spec_l02Sums.k0 {ρ : Type} (N : Nat) (K : AV → Heap → Option ρ) : XE → St → Option ρ := (blockK spec_l02Sums.kp 0 0 (seqK (xcode (E12 N) ents spec_l02Sums.kp 0 N (cB (cB (cB spec_l02Sums.bd))) 0) (spec_l02Sums.fin N K)))
theorem spec_l02Sums.k0_mix {ρ : Type} (N : Nat) (K : AV → Heap → Option ρ) : mixK (spec_l02Sums.fin N K .ret) (spec_l02Sums.k0 N K) = (spec_l02Sums.k0 N K) := by
  funext e s; cases e <;> kernel_rfl
def spec_l02Sums.st0 (c0 : Nat → Int) (c1 : Nat → Int) (i2 : Int) (j3 : Int) (k4 : Int) (lv5 : Int) (left6 : Int) (right7 : Int) (av8 : Int) : St := ⟨sl 71 [(1, .int .i64 (i2)), (2, .int .i64 (j3)), (3, .int .i64 (k4)), (4, .int .i64 (lv5)), (5, .sptr [(0, 2), (1, 520)]), (12, .int .i64 (left6)), (13, .int .i64 (right7)), (14, .int .i64 (av8))], [⟨true, .flat 2 (.ints .i64 c0)⟩, ⟨true, .flat 520 (.ints .u8 c1)⟩]⟩
def spec_l02Sums.sx0_0 (c0 : Nat → Int) (c1 : Nat → Int) (ov9 : Int) (ov10 : Int) : St := ⟨sl 71 [(5, .sptr [(0, 2), (1, 520)]), (12, .int .i64 (ov9)), (13, .int .i64 (ov10))], [⟨true, .flat 2 (.ints .i64 c0)⟩, ⟨true, .flat 520 (.ints .u8 c1)⟩]⟩
theorem spec_l02Sums.b0_gen {ρ : Type} (N : Nat) (K : AV → Heap → Option ρ) (L0 : St → Option ρ) (kv : XE → St → Option ρ) (c0 : Nat → Int) (c1 : Nat → Int) (i2 : Int) (j3 : Int) (k4 : Int) (lv5 : Int) (left6 : Int) (right7 : Int) (av8 : Int) :
    xcode (E12 N) ents spec_l02Sums.kp 0 N (cL (cK (cB (cA (cB (cB spec_l02Sums.bd)))))) 0 (spec_l02Sums.st0 c0 c1 i2 j3 k4 lv5 left6 right7 av8) (roundK spec_l02Sums.kp 0 0 L0 (mixK (spec_l02Sums.fin N K .ret) kv)) = (spec_l02Sums.b0 N (fun d0 d1 => K (.tup [.int .u8 (d0), .int .u8 (d1)]) []) (fun left6 right7 av8 => L0 (spec_l02Sums.st0 c0 c1 i2 j3 k4 lv5 left6 right7 av8)) (fun ov9 ov10 => kv (.exit 0) (spec_l02Sums.sx0_0 c0 c1 ov9 ov10)) c0 c1 i2 j3 k4 lv5 left6 right7 av8) := by kernel_rfl
theorem spec_l02Sums.b0_eq {ρ : Type} (N : Nat) (K : AV → Heap → Option ρ) (L0 : St → Option ρ) (c0 : Nat → Int) (c1 : Nat → Int) (i2 : Int) (j3 : Int) (k4 : Int) (lv5 : Int) (left6 : Int) (right7 : Int) (av8 : Int) :
    xcode (E12 N) ents spec_l02Sums.kp 0 N (cL (cK (cB (cA (cB (cB spec_l02Sums.bd)))))) 0 (spec_l02Sums.st0 c0 c1 i2 j3 k4 lv5 left6 right7 av8) (roundK spec_l02Sums.kp 0 0 L0 (spec_l02Sums.k0 N K)) = (spec_l02Sums.b0 N (fun d0 d1 => K (.tup [.int .u8 (d0), .int .u8 (d1)]) []) (fun left6 right7 av8 => L0 (spec_l02Sums.st0 c0 c1 i2 j3 k4 lv5 left6 right7 av8)) (fun ov9 ov10 => (spec_l02Sums.k0 N K) (.exit 0) (spec_l02Sums.sx0_0 c0 c1 ov9 ov10)) c0 c1 i2 j3 k4 lv5 left6 right7 av8) := by
  have h := spec_l02Sums.b0_gen N K L0 (spec_l02Sums.k0 N K) c0 c1 i2 j3 k4 lv5 left6 right7 av8
  rw [spec_l02Sums.k0_mix] at h
  exact h
theorem spec_l02Sums.a0_0_eq {ρ : Type} (N : Nat) (K : AV → Heap → Option ρ) (c0 : Nat → Int) (c1 : Nat → Int) (ov9 : Int) (ov10 : Int) :
    (spec_l02Sums.k0 N K) (.exit 0) (spec_l02Sums.sx0_0 c0 c1 ov9 ov10) = (spec_l02Sums.a0_0 N (fun d0 d1 => K (.tup [.int .u8 (d0), .int .u8 (d1)]) []) c0 ov9 ov10) := by kernel_rfl
theorem spec_l02Sums.l0_eq {ρ : Type} (N : Nat) (K : AV → Heap → Option ρ) (c0 : Nat → Int) (c1 : Nat → Int) (i2 : Int) (j3 : Int) (k4 : Int) (lv5 : Int) :
    ∀ (m : Nat) (left6 : Int) (right7 : Int) (av8 : Int), xloop (xcode (E12 N) ents spec_l02Sums.kp 0 N (cL (cK (cB (cA (cB (cB spec_l02Sums.bd)))))) 0) spec_l02Sums.kp 0 0 m (spec_l02Sums.st0 c0 c1 i2 j3 k4 lv5 left6 right7 av8) (spec_l02Sums.k0 N K) = (spec_l02Sums.l0 N (fun d0 d1 => K (.tup [.int .u8 (d0), .int .u8 (d1)]) []) c0 c1 i2 j3 k4 lv5 (fun ov9 ov10 => (spec_l02Sums.k0 N K) (.exit 0) (spec_l02Sums.sx0_0 c0 c1 ov9 ov10)) m left6 right7 av8) := by
  intro m
  induction m with
  | zero => intros; rfl
  | succ m ih =>
    intro left6 right7 av8
    refine (spec_l02Sums.b0_eq N K (fun s => xloop (xcode (E12 N) ents spec_l02Sums.kp 0 N (cL (cK (cB (cA (cB (cB spec_l02Sums.bd)))))) 0) spec_l02Sums.kp 0 0 m s (spec_l02Sums.k0 N K)) c0 c1 i2 j3 k4 lv5 left6 right7 av8).trans ?_
    simp only [ih]
    kernel_rfl
theorem spec_l02Sums.s_eq {ρ : Type} (N : Nat) (K : AV → Heap → Option ρ) (c0 : Nat → Int) (c1 : Nat → Int) (i2 : Int) (j3 : Int) (k4 : Int) (lv5 : Int) :
    xbody (E12 N) ents spec_l02Sums.kp N Try.f103 spec_l02Sums.bd [.agg [⟨.i64, 2, c0⟩, ⟨.u8, 520, c1⟩], .int .i64 (i2), .int .i64 (j3), .int .i64 (k4), .int .i64 (lv5)] [] K = (spec_l02Sums.s N (fun d0 d1 => K (.tup [.int .u8 (d0), .int .u8 (d1)]) []) (fun left6 right7 av8 => xloop (xcode (E12 N) ents spec_l02Sums.kp 0 N (cL (cK (cB (cA (cB (cB spec_l02Sums.bd)))))) 0) spec_l02Sums.kp 0 0 N (spec_l02Sums.st0 c0 c1 i2 j3 k4 lv5 left6 right7 av8) (spec_l02Sums.k0 N K))) := by kernel_rfl
theorem spec_l02Sums.eq {ρ : Type} (N : Nat) (K : AV → Heap → Option ρ) (c0 : Nat → Int) (c1 : Nat → Int) (i2 : Int) (j3 : Int) (k4 : Int) (lv5 : Int) :
    xbody (E12 N) ents spec_l02Sums.kp N Try.f103 spec_l02Sums.bd [.agg [⟨.i64, 2, c0⟩, ⟨.u8, 520, c1⟩], .int .i64 (i2), .int .i64 (j3), .int .i64 (k4), .int .i64 (lv5)] [] K = (spec_l02Sums N (fun d0 d1 => K (.tup [.int .u8 (d0), .int .u8 (d1)]) []) c0 c1 i2 j3 k4 lv5) := by
  refine (spec_l02Sums.s_eq N K c0 c1 i2 j3 k4 lv5).trans ?_
  simp only [spec_l02Sums.l0_eq, spec_l02Sums.a0_0_eq]
  kernel_rfl
def spec_l02Sums.en (N : Nat) (ρ : Type) : List AV → Heap → (AV → Heap → Option ρ) → Option ρ
  | [.agg [⟨.i64, 2, c0⟩, ⟨.u8, 520, c1⟩], .int .i64 (i2), .int .i64 (j3), .int .i64 (k4), .int .i64 (lv5)], [], K => (spec_l02Sums N (fun d0 d1 => K (.tup [.int .u8 (d0), .int .u8 (d1)]) []) c0 c1 i2 j3 k4 lv5)
  | _, _, _ => none
theorem spec_l02Sums.en_ok (N : Nat) (hE : EnvOk (E12 N) ents) (ρ : Type) (args : List AV) (sh : Heap) (K : AV → Heap → Option ρ) (r : ρ) (h : spec_l02Sums.en N ρ args sh K = some r) : ∃ v sh', K v sh' = some r ∧ FnOk (E12 N).P 103 args sh v sh' := by
  unfold spec_l02Sums.en at h
  split at h
  · exact fn_ok hE (kp := spec_l02Sums.kp) (N := N) Try.func103 (c := spec_l02Sums.bd) (by kernel_rfl) ((spec_l02Sums.eq N _ _ _ _ _ _ _).trans h)
  · cases h
def E13 (N : Nat) : Env := (E12 N).add 103 (spec_l02Sums.en N)
theorem E13_ok (N : Nat) : EnvOk (E13 N) ents := Env.add_ok (E12_ok N) (spec_l02Sums.en_ok N (E12_ok N))
def spec_l02Fault.kp : Keeps := ⟨[(0, [1, 4, 5], [], [])], [(0, [], [], [])], []⟩
def spec_l02Fault.bd : Code := bodyOf Try.f59
def spec_l02Fault.fin {ρ : Type} (N : Nat) (K : AV → Heap → Option ρ) : XE → St → Option ρ := finK (E13 N) spec_l02Fault.kp.fins Try.f59 [] K
def spec_l02Fault.k0 {ρ : Type} (N : Nat) (K : AV → Heap → Option ρ) : XE → St → Option ρ := (blockK spec_l02Fault.kp 0 0 (seqK (xcode (E13 N) ents spec_l02Fault.kp 0 N (cB (cB (cB spec_l02Fault.bd))) 0) (spec_l02Fault.fin N K)))
theorem spec_l02Fault.k0_mix {ρ : Type} (N : Nat) (K : AV → Heap → Option ρ) : mixK (spec_l02Fault.fin N K .ret) (spec_l02Fault.k0 N K) = (spec_l02Fault.k0 N K) := by
  funext e s; cases e <;> kernel_rfl
def spec_l02Fault.st0 (c0 : Nat → Int) (c1 : Nat → Int) (mv2 : Int) : St := ⟨sl 64 [(1, .sptr [(0, 2), (1, 520)]), (4, .int .i64 ((c0 1))), (5, .int .i64 (mv2))], [⟨true, .flat 2 (.ints .i64 c0)⟩, ⟨true, .flat 520 (.ints .u8 c1)⟩]⟩
def spec_l02Fault.sx0_0 : St := ⟨sl 64 [], []⟩
theorem spec_l02Fault.b0_gen {ρ : Type} (N : Nat) (K : AV → Heap → Option ρ) (L0 : St → Option ρ) (kv : XE → St → Option ρ) (c0 : Nat → Int) (c1 : Nat → Int) (mv2 : Int) :
    xcode (E13 N) ents spec_l02Fault.kp 0 N (cL (cK (cB (cA (cB (cB spec_l02Fault.bd)))))) 0 (spec_l02Fault.st0 c0 c1 mv2) (roundK spec_l02Fault.kp 0 0 L0 (mixK (spec_l02Fault.fin N K .ret) kv)) = (spec_l02Fault.b0 N (fun d0 d1 d2 d3 => K (.tup [.slice true 0 0 d0 (.exact d1) 1, .bool (d2)]) [⟨true, .flat 4 (.ints .i64 d3)⟩]) (fun d0 => K (.tup [.nils, .bool (d0)]) []) (fun mv2 => L0 (spec_l02Fault.st0 c0 c1 mv2)) (kv (.exit 0) (spec_l02Fault.sx0_0)) c0 c1 mv2) := by kernel_rfl
theorem spec_l02Fault.b0_eq {ρ : Type} (N : Nat) (K : AV → Heap → Option ρ) (L0 : St → Option ρ) (c0 : Nat → Int) (c1 : Nat → Int) (mv2 : Int) :
    xcode (E13 N) ents spec_l02Fault.kp 0 N (cL (cK (cB (cA (cB (cB spec_l02Fault.bd)))))) 0 (spec_l02Fault.st0 c0 c1 mv2) (roundK spec_l02Fault.kp 0 0 L0 (spec_l02Fault.k0 N K)) = (spec_l02Fault.b0 N (fun d0 d1 d2 d3 => K (.tup [.slice true 0 0 d0 (.exact d1) 1, .bool (d2)]) [⟨true, .flat 4 (.ints .i64 d3)⟩]) (fun d0 => K (.tup [.nils, .bool (d0)]) []) (fun mv2 => L0 (spec_l02Fault.st0 c0 c1 mv2)) ((spec_l02Fault.k0 N K) (.exit 0) (spec_l02Fault.sx0_0)) c0 c1 mv2) := by
  have h := spec_l02Fault.b0_gen N K L0 (spec_l02Fault.k0 N K) c0 c1 mv2
  rw [spec_l02Fault.k0_mix] at h
  exact h
theorem spec_l02Fault.a0_0_eq {ρ : Type} (N : Nat) (K : AV → Heap → Option ρ) :
    (spec_l02Fault.k0 N K) (.exit 0) (spec_l02Fault.sx0_0) = (spec_l02Fault.a0_0 N (fun d0 d1 d2 d3 => K (.tup [.slice true 0 0 d0 (.exact d1) 1, .bool (d2)]) [⟨true, .flat 4 (.ints .i64 d3)⟩]) (fun d0 => K (.tup [.nils, .bool (d0)]) [])) := by kernel_rfl
theorem spec_l02Fault.l0_eq {ρ : Type} (N : Nat) (K : AV → Heap → Option ρ) (c0 : Nat → Int) (c1 : Nat → Int) :
    ∀ (m : Nat) (mv2 : Int), xloop (xcode (E13 N) ents spec_l02Fault.kp 0 N (cL (cK (cB (cA (cB (cB spec_l02Fault.bd)))))) 0) spec_l02Fault.kp 0 0 m (spec_l02Fault.st0 c0 c1 mv2) (spec_l02Fault.k0 N K) = (spec_l02Fault.l0 N (fun d0 d1 d2 d3 => K (.tup [.slice true 0 0 d0 (.exact d1) 1, .bool (d2)]) [⟨true, .flat 4 (.ints .i64 d3)⟩]) (fun d0 => K (.tup [.nils, .bool (d0)]) []) c0 c1 ((spec_l02Fault.k0 N K) (.exit 0) (spec_l02Fault.sx0_0)) m mv2) := by
  intro m
  induction m with
  | zero => intros; rfl
  | succ m ih =>
    intro mv2
    refine (spec_l02Fault.b0_eq N K (fun s => xloop (xcode (E13 N) ents spec_l02Fault.kp 0 N (cL (cK (cB (cA (cB (cB spec_l02Fault.bd)))))) 0) spec_l02Fault.kp 0 0 m s (spec_l02Fault.k0 N K)) c0 c1 mv2).trans ?_
    simp only [ih]
    kernel_rfl
theorem spec_l02Fault.s_eq {ρ : Type} (N : Nat) (K : AV → Heap → Option ρ) (c0 : Nat → Int) (c1 : Nat → Int) :
    xbody (E13 N) ents spec_l02Fault.kp N Try.f59 spec_l02Fault.bd [.agg [⟨.i64, 2, c0⟩, ⟨.u8, 520, c1⟩]] [] K = (spec_l02Fault.s N (fun d0 d1 d2 d3 => K (.tup [.slice true 0 0 d0 (.exact d1) 1, .bool (d2)]) [⟨true, .flat 4 (.ints .i64 d3)⟩]) (fun d0 => K (.tup [.nils, .bool (d0)]) []) (fun mv2 => xloop (xcode (E13 N) ents spec_l02Fault.kp 0 N (cL (cK (cB (cA (cB (cB spec_l02Fault.bd)))))) 0) spec_l02Fault.kp 0 0 N (spec_l02Fault.st0 c0 c1 mv2) (spec_l02Fault.k0 N K))) := by kernel_rfl
theorem spec_l02Fault.eq {ρ : Type} (N : Nat) (K : AV → Heap → Option ρ) (c0 : Nat → Int) (c1 : Nat → Int) :
    xbody (E13 N) ents spec_l02Fault.kp N Try.f59 spec_l02Fault.bd [.agg [⟨.i64, 2, c0⟩, ⟨.u8, 520, c1⟩]] [] K = (spec_l02Fault N (fun d0 d1 d2 d3 => K (.tup [.slice true 0 0 d0 (.exact d1) 1, .bool (d2)]) [⟨true, .flat 4 (.ints .i64 d3)⟩]) (fun d0 => K (.tup [.nils, .bool (d0)]) []) c0 c1) := by
  refine (spec_l02Fault.s_eq N K c0 c1).trans ?_
  simp only [spec_l02Fault.l0_eq, spec_l02Fault.a0_0_eq]
  kernel_rfl
def spec_l02Fault.en (N : Nat) (ρ : Type) : List AV → Heap → (AV → Heap → Option ρ) → Option ρ
  | [.agg [⟨.i64, 2, c0⟩, ⟨.u8, 520, c1⟩]], [], K => (spec_l02Fault N (fun d0 d1 d2 d3 => K (.tup [.slice true 0 0 d0 (.exact d1) 1, .bool (d2)]) [⟨true, .flat 4 (.ints .i64 d3)⟩]) (fun d0 => K (.tup [.nils, .bool (d0)]) []) c0 c1)
  | _, _, _ => none
theorem spec_l02Fault.en_ok (N : Nat) (hE : EnvOk (E13 N) ents) (ρ : Type) (args : List AV) (sh : Heap) (K : AV → Heap → Option ρ) (r : ρ) (h : spec_l02Fault.en N ρ args sh K = some r) : ∃ v sh', K v sh' = some r ∧ FnOk (E13 N).P 59 args sh v sh' := by
  unfold spec_l02Fault.en at h
  split at h
  · exact fn_ok hE (kp := spec_l02Fault.kp) (N := N) Try.func59 (c := spec_l02Fault.bd) (by kernel_rfl) ((spec_l02Fault.eq N _ _ _).trans h)
  · cases h
def E14 (N : Nat) : Env := (E13 N).add 59 (spec_l02Fault.en N)
theorem E14_ok (N : Nat) : EnvOk (E14 N) ents := Env.add_ok (E13_ok N) (spec_l02Fault.en_ok N (E13_ok N))
def spec_l01Add.kp : Keeps := ⟨[(0, [0, 3, 5, 6, 8, 9], [], [])], [(0, [5, 8], [], [])], []⟩
def spec_l01Add.bd : Code := bodyOf Try.f78
def spec_l01Add.fin {ρ : Type} (N : Nat) (K : AV → Heap → Option ρ) : XE → St → Option ρ := finK (E14 N) spec_l01Add.kp.fins Try.f78 [] K
def spec_l01Add.k0 {ρ : Type} (N : Nat) (K : AV → Heap → Option ρ) : XE → St → Option ρ := (blockK spec_l01Add.kp 0 0 (seqK (xcode (E14 N) ents spec_l01Add.kp 0 N (cB (cB spec_l01Add.bd)) 0) (spec_l01Add.fin N K)))
theorem spec_l01Add.k0_mix {ρ : Type} (N : Nat) (K : AV → Heap → Option ρ) : mixK (spec_l01Add.fin N K .ret) (spec_l01Add.k0 N K) = (spec_l01Add.k0 N K) := by
  funext e s; cases e <;> kernel_rfl
def spec_l01Add.st0 (p0 : Int) (w2 : Nat → Int) (k3 : Int) (i4 : Int) (gv5 : Nat → Int) : St := ⟨sl 30 [(0, .int .i64 (p0)), (3, .int .i64 (k3)), (5, .sptr [(0, 8)]), (6, .sptr [(1, 8)]), (8, .sptr [(2, 8)]), (9, .int .i64 (i4))], [⟨true, .flat 8 (.ints .u8 gv5)⟩, ⟨true, .flat 8 (.ints .u8 w2)⟩, ⟨true, .flat 8 (.ints .u8 (fun _ => 0))⟩]⟩
def spec_l01Add.sx0_0 (ov7 : Nat → Int) : St := ⟨sl 30 [(5, .sptr [(0, 8)]), (8, .sptr [(1, 8)])], [⟨true, .flat 8 (.ints .u8 ov7)⟩, ⟨true, .flat 8 (.ints .u8 (fun _ => 0))⟩]⟩
theorem spec_l01Add.b0_gen {ρ : Type} (N : Nat) (K : AV → Heap → Option ρ) (L0 : St → Option ρ) (kv : XE → St → Option ρ) (p0 : Int) (w2 : Nat → Int) (k3 : Int) (i4 : Int) (gv5 : Nat → Int) :
    xcode (E14 N) ents spec_l01Add.kp 0 N (cL (cK (cB (cA (cB spec_l01Add.bd))))) 0 (spec_l01Add.st0 p0 w2 k3 i4 gv5) (roundK spec_l01Add.kp 0 0 L0 (mixK (spec_l01Add.fin N K .ret) kv)) = (spec_l01Add.b0 N (fun d0 => K (.agg [⟨.u8, 8, d0⟩]) []) (fun i4 gv5 => L0 (spec_l01Add.st0 p0 w2 k3 i4 gv5)) (fun ov7 => kv (.exit 0) (spec_l01Add.sx0_0 ov7)) p0 w2 k3 i4 gv5) := by kernel_rfl
theorem spec_l01Add.b0_eq {ρ : Type} (N : Nat) (K : AV → Heap → Option ρ) (L0 : St → Option ρ) (p0 : Int) (w2 : Nat → Int) (k3 : Int) (i4 : Int) (gv5 : Nat → Int) :
    xcode (E14 N) ents spec_l01Add.kp 0 N (cL (cK (cB (cA (cB spec_l01Add.bd))))) 0 (spec_l01Add.st0 p0 w2 k3 i4 gv5) (roundK spec_l01Add.kp 0 0 L0 (spec_l01Add.k0 N K)) = (spec_l01Add.b0 N (fun d0 => K (.agg [⟨.u8, 8, d0⟩]) []) (fun i4 gv5 => L0 (spec_l01Add.st0 p0 w2 k3 i4 gv5)) (fun ov7 => (spec_l01Add.k0 N K) (.exit 0) (spec_l01Add.sx0_0 ov7)) p0 w2 k3 i4 gv5) := by
  have h := spec_l01Add.b0_gen N K L0 (spec_l01Add.k0 N K) p0 w2 k3 i4 gv5
  rw [spec_l01Add.k0_mix] at h
  exact h
theorem spec_l01Add.a0_0_eq {ρ : Type} (N : Nat) (K : AV → Heap → Option ρ) (ov7 : Nat → Int) :
    (spec_l01Add.k0 N K) (.exit 0) (spec_l01Add.sx0_0 ov7) = (spec_l01Add.a0_0 N (fun d0 => K (.agg [⟨.u8, 8, d0⟩]) []) ov7) := by kernel_rfl
theorem spec_l01Add.l0_eq {ρ : Type} (N : Nat) (K : AV → Heap → Option ρ) (p0 : Int) (w2 : Nat → Int) (k3 : Int) :
    ∀ (m : Nat) (i4 : Int) (gv5 : Nat → Int), xloop (xcode (E14 N) ents spec_l01Add.kp 0 N (cL (cK (cB (cA (cB spec_l01Add.bd))))) 0) spec_l01Add.kp 0 0 m (spec_l01Add.st0 p0 w2 k3 i4 gv5) (spec_l01Add.k0 N K) = (spec_l01Add.l0 N (fun d0 => K (.agg [⟨.u8, 8, d0⟩]) []) p0 w2 k3 (fun ov7 => (spec_l01Add.k0 N K) (.exit 0) (spec_l01Add.sx0_0 ov7)) m i4 gv5) := by
  intro m
  induction m with
  | zero => intros; rfl
  | succ m ih =>
    intro i4 gv5
    refine (spec_l01Add.b0_eq N K (fun s => xloop (xcode (E14 N) ents spec_l01Add.kp 0 N (cL (cK (cB (cA (cB spec_l01Add.bd))))) 0) spec_l01Add.kp 0 0 m s (spec_l01Add.k0 N K)) p0 w2 k3 i4 gv5).trans ?_
    simp only [ih]
    kernel_rfl
theorem spec_l01Add.s_eq {ρ : Type} (N : Nat) (K : AV → Heap → Option ρ) (p0 : Int) (v1 : Nat → Int) (w2 : Nat → Int) (k3 : Int) :
    xbody (E14 N) ents spec_l01Add.kp N Try.f78 spec_l01Add.bd [.int .i64 (p0), .agg [⟨.u8, 8, v1⟩], .agg [⟨.u8, 8, w2⟩], .int .i64 (k3)] [] K = (spec_l01Add.s N (fun d0 => K (.agg [⟨.u8, 8, d0⟩]) []) (fun i4 gv5 => xloop (xcode (E14 N) ents spec_l01Add.kp 0 N (cL (cK (cB (cA (cB spec_l01Add.bd))))) 0) spec_l01Add.kp 0 0 N (spec_l01Add.st0 p0 w2 k3 i4 gv5) (spec_l01Add.k0 N K)) v1) := by kernel_rfl
theorem spec_l01Add.eq {ρ : Type} (N : Nat) (K : AV → Heap → Option ρ) (p0 : Int) (v1 : Nat → Int) (w2 : Nat → Int) (k3 : Int) :
    xbody (E14 N) ents spec_l01Add.kp N Try.f78 spec_l01Add.bd [.int .i64 (p0), .agg [⟨.u8, 8, v1⟩], .agg [⟨.u8, 8, w2⟩], .int .i64 (k3)] [] K = (spec_l01Add N (fun d0 => K (.agg [⟨.u8, 8, d0⟩]) []) p0 v1 w2 k3) := by
  refine (spec_l01Add.s_eq N K p0 v1 w2 k3).trans ?_
  simp only [spec_l01Add.l0_eq, spec_l01Add.a0_0_eq]
  kernel_rfl
def spec_l01Add.en (N : Nat) (ρ : Type) : List AV → Heap → (AV → Heap → Option ρ) → Option ρ
  | [.int .i64 (p0), .agg [⟨.u8, 8, v1⟩], .agg [⟨.u8, 8, w2⟩], .int .i64 (k3)], [], K => (spec_l01Add N (fun d0 => K (.agg [⟨.u8, 8, d0⟩]) []) p0 v1 w2 k3)
  | _, _, _ => none
theorem spec_l01Add.en_ok (N : Nat) (hE : EnvOk (E14 N) ents) (ρ : Type) (args : List AV) (sh : Heap) (K : AV → Heap → Option ρ) (r : ρ) (h : spec_l01Add.en N ρ args sh K = some r) : ∃ v sh', K v sh' = some r ∧ FnOk (E14 N).P 78 args sh v sh' := by
  unfold spec_l01Add.en at h
  split at h
  · exact fn_ok hE (kp := spec_l01Add.kp) (N := N) Try.func78 (c := spec_l01Add.bd) (by kernel_rfl) ((spec_l01Add.eq N _ _ _ _ _).trans h)
  · cases h
def E15 (N : Nat) : Env := (E14 N).add 78 (spec_l01Add.en N)
theorem E15_ok (N : Nat) : EnvOk (E15 N) ents := Env.add_ok (E14_ok N) (spec_l01Add.en_ok N (E14_ok N))
def spec_l01Basis.kp : Keeps := ⟨[], [], []⟩
def spec_l01Basis.bd : Code := bodyOf Try.f125
def spec_l01Basis.fin {ρ : Type} (N : Nat) (K : AV → Heap → Option ρ) : XE → St → Option ρ := finK (E15 N) spec_l01Basis.kp.fins Try.f125 [] K
theorem spec_l01Basis.eq {ρ : Type} (N : Nat) (K : AV → Heap → Option ρ) (i0 : Int) :
    xbody (E15 N) ents spec_l01Basis.kp N Try.f125 spec_l01Basis.bd [.int .i64 (i0)] [] K = (spec_l01Basis N (fun d0 => K (.agg [⟨.u8, 8, d0⟩]) []) i0) := by kernel_rfl
def spec_l01Basis.en (N : Nat) (ρ : Type) : List AV → Heap → (AV → Heap → Option ρ) → Option ρ
  | [.int .i64 (i0)], [], K => (spec_l01Basis N (fun d0 => K (.agg [⟨.u8, 8, d0⟩]) []) i0)
  | _, _, _ => none
theorem spec_l01Basis.en_ok (N : Nat) (hE : EnvOk (E15 N) ents) (ρ : Type) (args : List AV) (sh : Heap) (K : AV → Heap → Option ρ) (r : ρ) (h : spec_l01Basis.en N ρ args sh K = some r) : ∃ v sh', K v sh' = some r ∧ FnOk (E15 N).P 125 args sh v sh' := by
  unfold spec_l01Basis.en at h
  split at h
  · exact fn_ok hE (kp := spec_l01Basis.kp) (N := N) Try.func125 (c := spec_l01Basis.bd) (by kernel_rfl) ((spec_l01Basis.eq N _ _).trans h)
  · cases h
def E16 (N : Nat) : Env := (E15 N).add 125 (spec_l01Basis.en N)
theorem E16_ok (N : Nat) : EnvOk (E16 N) ents := Env.add_ok (E15_ok N) (spec_l01Basis.en_ok N (E15_ok N))
def spec_l02Counits.kp : Keeps := ⟨[(0, [1, 3], [], []), (2, [1, 3, 4, 5, 6], [], []), (4, [1, 3, 4, 5, 6, 7, 8], [], [])], [(0, [], [], []), (2, [1, 3, 4, 5], [], []), (4, [1, 3, 4, 5, 6, 7], [], [])], []⟩
def spec_l02Counits.bd : Code := bodyOf Try.f93
def spec_l02Counits.fin {ρ : Type} (N : Nat) (K : AV → Heap → Option ρ) : XE → St → Option ρ := finK (E16 N) spec_l02Counits.kp.fins Try.f93 [] K
def spec_l02Counits.k0 {ρ : Type} (N : Nat) (K : AV → Heap → Option ρ) : XE → St → Option ρ := (blockK spec_l02Counits.kp 0 0 (seqK (xcode (E16 N) ents spec_l02Counits.kp 0 N (cB (cB spec_l02Counits.bd)) 0) (spec_l02Counits.fin N K)))
theorem spec_l02Counits.k0_mix {ρ : Type} (N : Nat) (K : AV → Heap → Option ρ) : mixK (spec_l02Counits.fin N K .ret) (spec_l02Counits.k0 N K) = (spec_l02Counits.k0 N K) := by
  funext e s; cases e <;> kernel_rfl
def spec_l02Counits.st0 (c0 : Nat → Int) (c1 : Nat → Int) (i2 : Int) : St := ⟨sl 77 [(1, .sptr [(0, 2), (1, 520)]), (3, .int .i64 (i2))], [⟨true, .flat 2 (.ints .i64 c0)⟩, ⟨true, .flat 520 (.ints .u8 c1)⟩]⟩
def spec_l02Counits.sx0_0 : St := ⟨sl 77 [], []⟩
def spec_l02Counits.k1g {ρ : Type} (N : Nat) (L0 : St → Option ρ) (kv : XE → St → Option ρ) : XE → St → Option ρ := (blockK spec_l02Counits.kp 0 2 (seqK (xcode (E16 N) ents spec_l02Counits.kp 0 N (cB (cB (cK (cA (cB (cL (cK (cB (cA (cB spec_l02Counits.bd)))))))))) 1) (blockK spec_l02Counits.kp 0 1 (seqK (xcode (E16 N) ents spec_l02Counits.kp 0 N (cB (cB (cL (cK (cB (cA (cB spec_l02Counits.bd))))))) 0) (roundK spec_l02Counits.kp 0 0 L0 kv)))))
theorem spec_l02Counits.k1_mix {ρ : Type} (N : Nat) (K : AV → Heap → Option ρ) (L0 : St → Option ρ) : mixK (spec_l02Counits.fin N K .ret) (spec_l02Counits.k1g N L0 (spec_l02Counits.k0 N K)) = (spec_l02Counits.k1g N L0 (spec_l02Counits.k0 N K)) := by
  funext e s; cases e <;> kernel_rfl
def spec_l02Counits.st1 (c0 : Nat → Int) (c1 : Nat → Int) (i2 : Int) (j3 : Int) (gv4 : Nat → Int) (gv5 : Nat → Int) : St := ⟨sl 77 [(1, .sptr [(0, 2), (1, 520)]), (3, .int .i64 (i2)), (4, .sptr [(2, 8)]), (5, .sptr [(3, 8)]), (6, .int .i64 (j3))], [⟨true, .flat 2 (.ints .i64 c0)⟩, ⟨true, .flat 520 (.ints .u8 c1)⟩, ⟨true, .flat 8 (.ints .u8 gv4)⟩, ⟨true, .flat 8 (.ints .u8 gv5)⟩]⟩
def spec_l02Counits.sx1_0 (c0 : Nat → Int) (c1 : Nat → Int) (i2 : Int) (ov11 : Nat → Int) (ov12 : Nat → Int) : St := ⟨sl 77 [(1, .sptr [(0, 2), (1, 520)]), (3, .int .i64 (i2)), (4, .sptr [(2, 8)]), (5, .sptr [(3, 8)])], [⟨true, .flat 2 (.ints .i64 c0)⟩, ⟨true, .flat 520 (.ints .u8 c1)⟩, ⟨true, .flat 8 (.ints .u8 ov11)⟩, ⟨true, .flat 8 (.ints .u8 ov12)⟩]⟩
def spec_l02Counits.k2g {ρ : Type} (N : Nat) (L1 : St → Option ρ) (kv : XE → St → Option ρ) : XE → St → Option ρ := (blockK spec_l02Counits.kp 0 4 (seqK (xcode (E16 N) ents spec_l02Counits.kp 0 N (cB (cB (cB (cK (cA (cB (cL (cK (cB (cA (cB (cK (cA (cB (cL (cK (cB (cA (cB spec_l02Counits.bd))))))))))))))))))) 3) (blockK spec_l02Counits.kp 0 3 (seqK (xcode (E16 N) ents spec_l02Counits.kp 0 N (cB (cB (cL (cK (cB (cA (cB (cK (cA (cB (cL (cK (cB (cA (cB spec_l02Counits.bd))))))))))))))) 2) (roundK spec_l02Counits.kp 0 2 L1 kv)))))
theorem spec_l02Counits.k2_mix {ρ : Type} (N : Nat) (K : AV → Heap → Option ρ) (L0 : St → Option ρ) (L1 : St → Option ρ) : mixK (spec_l02Counits.fin N K .ret) (spec_l02Counits.k2g N L1 (spec_l02Counits.k1g N L0 (spec_l02Counits.k0 N K))) = (spec_l02Counits.k2g N L1 (spec_l02Counits.k1g N L0 (spec_l02Counits.k0 N K))) := by
  funext e s; cases e <;> kernel_rfl
def spec_l02Counits.st2 (c0 : Nat → Int) (c1 : Nat → Int) (i2 : Int) (j3 : Int) (gv5 : Nat → Int) (rv6 : Nat → Int) (sum7 : Int) (k8 : Int) : St := ⟨sl 77 [(1, .sptr [(0, 2), (1, 520)]), (3, .int .i64 (i2)), (4, .sptr [(2, 8)]), (5, .sptr [(3, 8)]), (6, .int .i64 (j3)), (7, .int .i64 (sum7)), (8, .int .i64 (k8))], [⟨true, .flat 2 (.ints .i64 c0)⟩, ⟨true, .flat 520 (.ints .u8 c1)⟩, ⟨true, .flat 8 (.ints .u8 rv6)⟩, ⟨true, .flat 8 (.ints .u8 gv5)⟩]⟩
def spec_l02Counits.sx2_0 (c0 : Nat → Int) (c1 : Nat → Int) (i2 : Int) (j3 : Int) (gv5 : Nat → Int) (rv6 : Nat → Int) (ov9 : Int) : St := ⟨sl 77 [(1, .sptr [(0, 2), (1, 520)]), (3, .int .i64 (i2)), (4, .sptr [(2, 8)]), (5, .sptr [(3, 8)]), (6, .int .i64 (j3)), (7, .int .i64 (ov9))], [⟨true, .flat 2 (.ints .i64 c0)⟩, ⟨true, .flat 520 (.ints .u8 c1)⟩, ⟨true, .flat 8 (.ints .u8 rv6)⟩, ⟨true, .flat 8 (.ints .u8 gv5)⟩]⟩
theorem spec_l02Counits.b2_gen {ρ : Type} (N : Nat) (K : AV → Heap → Option ρ) (L2 : St → Option ρ) (kv : XE → St → Option ρ) (c0 : Nat → Int) (c1 : Nat → Int) (i2 : Int) (j3 : Int) (gv5 : Nat → Int) (rv6 : Nat → Int) (sum7 : Int) (k8 : Int) :
    xcode (E16 N) ents spec_l02Counits.kp 0 N (cL (cK (cB (cA (cB (cB (cK (cA (cB (cL (cK (cB (cA (cB (cK (cA (cB (cL (cK (cB (cA (cB spec_l02Counits.bd)))))))))))))))))))))) 4 (spec_l02Counits.st2 c0 c1 i2 j3 gv5 rv6 sum7 k8) (roundK spec_l02Counits.kp 0 4 L2 (mixK (spec_l02Counits.fin N K .ret) kv)) = (spec_l02Counits.b2 N (fun d0 => K (.bool (d0)) []) (fun sum7 k8 => L2 (spec_l02Counits.st2 c0 c1 i2 j3 gv5 rv6 sum7 k8)) (fun ov9 => kv (.exit 4) (spec_l02Counits.sx2_0 c0 c1 i2 j3 gv5 rv6 ov9)) c0 c1 i2 j3 sum7 k8) := by kernel_rfl
theorem spec_l02Counits.b2_eq {ρ : Type} (N : Nat) (K : AV → Heap → Option ρ) (L0 : St → Option ρ) (L1 : St → Option ρ) (L2 : St → Option ρ) (c0 : Nat → Int) (c1 : Nat → Int) (i2 : Int) (j3 : Int) (gv5 : Nat → Int) (rv6 : Nat → Int) (sum7 : Int) (k8 : Int) :
    xcode (E16 N) ents spec_l02Counits.kp 0 N (cL (cK (cB (cA (cB (cB (cK (cA (cB (cL (cK (cB (cA (cB (cK (cA (cB (cL (cK (cB (cA (cB spec_l02Counits.bd)))))))))))))))))))))) 4 (spec_l02Counits.st2 c0 c1 i2 j3 gv5 rv6 sum7 k8) (roundK spec_l02Counits.kp 0 4 L2 (spec_l02Counits.k2g N L1 (spec_l02Counits.k1g N L0 (spec_l02Counits.k0 N K)))) = (spec_l02Counits.b2 N (fun d0 => K (.bool (d0)) []) (fun sum7 k8 => L2 (spec_l02Counits.st2 c0 c1 i2 j3 gv5 rv6 sum7 k8)) (fun ov9 => (spec_l02Counits.k2g N L1 (spec_l02Counits.k1g N L0 (spec_l02Counits.k0 N K))) (.exit 4) (spec_l02Counits.sx2_0 c0 c1 i2 j3 gv5 rv6 ov9)) c0 c1 i2 j3 sum7 k8) := by
  have h := spec_l02Counits.b2_gen N K L2 (spec_l02Counits.k2g N L1 (spec_l02Counits.k1g N L0 (spec_l02Counits.k0 N K))) c0 c1 i2 j3 gv5 rv6 sum7 k8
  rw [spec_l02Counits.k2_mix] at h
  exact h
theorem spec_l02Counits.a2_0_gen {ρ : Type} (N : Nat) (K : AV → Heap → Option ρ) (L1 : St → Option ρ) (kv : XE → St → Option ρ) (c0 : Nat → Int) (c1 : Nat → Int) (i2 : Int) (j3 : Int) (gv5 : Nat → Int) (rv6 : Nat → Int) (ov9 : Int) :
    (spec_l02Counits.k2g N L1 (mixK (spec_l02Counits.fin N K .ret) kv)) (.exit 4) (spec_l02Counits.sx2_0 c0 c1 i2 j3 gv5 rv6 ov9) = (spec_l02Counits.a2_0 N (fun d0 => K (.bool (d0)) []) (fun j3 gv4 gv5 => L1 (spec_l02Counits.st1 c0 c1 i2 j3 gv4 gv5)) (fun ov11 ov12 => kv (.exit 2) (spec_l02Counits.sx1_0 c0 c1 i2 ov11 ov12)) c0 j3 gv5 rv6 ov9) := by kernel_rfl
theorem spec_l02Counits.a2_0_eq {ρ : Type} (N : Nat) (K : AV → Heap → Option ρ) (L0 : St → Option ρ) (L1 : St → Option ρ) (c0 : Nat → Int) (c1 : Nat → Int) (i2 : Int) (j3 : Int) (gv5 : Nat → Int) (rv6 : Nat → Int) (ov9 : Int) :
    (spec_l02Counits.k2g N L1 (spec_l02Counits.k1g N L0 (spec_l02Counits.k0 N K))) (.exit 4) (spec_l02Counits.sx2_0 c0 c1 i2 j3 gv5 rv6 ov9) = (spec_l02Counits.a2_0 N (fun d0 => K (.bool (d0)) []) (fun j3 gv4 gv5 => L1 (spec_l02Counits.st1 c0 c1 i2 j3 gv4 gv5)) (fun ov11 ov12 => (spec_l02Counits.k1g N L0 (spec_l02Counits.k0 N K)) (.exit 2) (spec_l02Counits.sx1_0 c0 c1 i2 ov11 ov12)) c0 j3 gv5 rv6 ov9) := by
  have h := spec_l02Counits.a2_0_gen N K L1 (spec_l02Counits.k1g N L0 (spec_l02Counits.k0 N K)) c0 c1 i2 j3 gv5 rv6 ov9
  rw [spec_l02Counits.k1_mix] at h
  exact h
theorem spec_l02Counits.b1_gen {ρ : Type} (N : Nat) (K : AV → Heap → Option ρ) (L1 : St → Option ρ) (kv : XE → St → Option ρ) (c0 : Nat → Int) (c1 : Nat → Int) (i2 : Int) (j3 : Int) (gv4 : Nat → Int) (gv5 : Nat → Int) :
    xcode (E16 N) ents spec_l02Counits.kp 0 N (cL (cK (cB (cA (cB (cK (cA (cB (cL (cK (cB (cA (cB spec_l02Counits.bd))))))))))))) 2 (spec_l02Counits.st1 c0 c1 i2 j3 gv4 gv5) (roundK spec_l02Counits.kp 0 2 L1 (mixK (spec_l02Counits.fin N K .ret) kv)) = (spec_l02Counits.b1 N (fun d0 => K (.bool (d0)) []) (fun rv6 sum7 k8 => xloop (xcode (E16 N) ents spec_l02Counits.kp 0 N (cL (cK (cB (cA (cB (cB (cK (cA (cB (cL (cK (cB (cA (cB (cK (cA (cB (cL (cK (cB (cA (cB spec_l02Counits.bd)))))))))))))))))))))) 4) spec_l02Counits.kp 0 4 N (spec_l02Counits.st2 c0 c1 i2 j3 gv5 rv6 sum7 k8) (spec_l02Counits.k2g N L1 (mixK (spec_l02Counits.fin N K .ret) kv))) (fun j3 gv4 gv5 => L1 (spec_l02Counits.st1 c0 c1 i2 j3 gv4 gv5)) (fun ov11 ov12 => kv (.exit 2) (spec_l02Counits.sx1_0 c0 c1 i2 ov11 ov12)) c0 c1 i2 j3 gv4 gv5) := by kernel_rfl
theorem spec_l02Counits.b1_eq {ρ : Type} (N : Nat) (K : AV → Heap → Option ρ) (L0 : St → Option ρ) (L1 : St → Option ρ) (c0 : Nat → Int) (c1 : Nat → Int) (i2 : Int) (j3 : Int) (gv4 : Nat → Int) (gv5 : Nat → Int) :
    xcode (E16 N) ents spec_l02Counits.kp 0 N (cL (cK (cB (cA (cB (cK (cA (cB (cL (cK (cB (cA (cB spec_l02Counits.bd))))))))))))) 2 (spec_l02Counits.st1 c0 c1 i2 j3 gv4 gv5) (roundK spec_l02Counits.kp 0 2 L1 (spec_l02Counits.k1g N L0 (spec_l02Counits.k0 N K))) = (spec_l02Counits.b1 N (fun d0 => K (.bool (d0)) []) (fun rv6 sum7 k8 => xloop (xcode (E16 N) ents spec_l02Counits.kp 0 N (cL (cK (cB (cA (cB (cB (cK (cA (cB (cL (cK (cB (cA (cB (cK (cA (cB (cL (cK (cB (cA (cB spec_l02Counits.bd)))))))))))))))))))))) 4) spec_l02Counits.kp 0 4 N (spec_l02Counits.st2 c0 c1 i2 j3 gv5 rv6 sum7 k8) (spec_l02Counits.k2g N L1 (spec_l02Counits.k1g N L0 (spec_l02Counits.k0 N K)))) (fun j3 gv4 gv5 => L1 (spec_l02Counits.st1 c0 c1 i2 j3 gv4 gv5)) (fun ov11 ov12 => (spec_l02Counits.k1g N L0 (spec_l02Counits.k0 N K)) (.exit 2) (spec_l02Counits.sx1_0 c0 c1 i2 ov11 ov12)) c0 c1 i2 j3 gv4 gv5) := by
  have h := spec_l02Counits.b1_gen N K L1 (spec_l02Counits.k1g N L0 (spec_l02Counits.k0 N K)) c0 c1 i2 j3 gv4 gv5
  rw [spec_l02Counits.k1_mix] at h
  exact h
theorem spec_l02Counits.a1_0_gen {ρ : Type} (N : Nat) (K : AV → Heap → Option ρ) (L0 : St → Option ρ) (kv : XE → St → Option ρ) (c0 : Nat → Int) (c1 : Nat → Int) (i2 : Int) (ov11 : Nat → Int) (ov12 : Nat → Int) :
    (spec_l02Counits.k1g N L0 (mixK (spec_l02Counits.fin N K .ret) kv)) (.exit 2) (spec_l02Counits.sx1_0 c0 c1 i2 ov11 ov12) = (spec_l02Counits.a1_0 N (fun d0 => K (.bool (d0)) []) (fun i2 => L0 (spec_l02Counits.st0 c0 c1 i2)) (kv (.exit 0) (spec_l02Counits.sx0_0)) i2 ov11 ov12) := by kernel_rfl
theorem spec_l02Counits.a1_0_eq {ρ : Type} (N : Nat) (K : AV → Heap → Option ρ) (L0 : St → Option ρ) (c0 : Nat → Int) (c1 : Nat → Int) (i2 : Int) (ov11 : Nat → Int) (ov12 : Nat → Int) :
    (spec_l02Counits.k1g N L0 (spec_l02Counits.k0 N K)) (.exit 2) (spec_l02Counits.sx1_0 c0 c1 i2 ov11 ov12) = (spec_l02Counits.a1_0 N (fun d0 => K (.bool (d0)) []) (fun i2 => L0 (spec_l02Counits.st0 c0 c1 i2)) ((spec_l02Counits.k0 N K) (.exit 0) (spec_l02Counits.sx0_0)) i2 ov11 ov12) := by
  have h := spec_l02Counits.a1_0_gen N K L0 (spec_l02Counits.k0 N K) c0 c1 i2 ov11 ov12
  rw [spec_l02Counits.k0_mix] at h
  exact h
theorem spec_l02Counits.b0_gen {ρ : Type} (N : Nat) (K : AV → Heap → Option ρ) (L0 : St → Option ρ) (kv : XE → St → Option ρ) (c0 : Nat → Int) (c1 : Nat → Int) (i2 : Int) :
    xcode (E16 N) ents spec_l02Counits.kp 0 N (cL (cK (cB (cA (cB spec_l02Counits.bd))))) 0 (spec_l02Counits.st0 c0 c1 i2) (roundK spec_l02Counits.kp 0 0 L0 (mixK (spec_l02Counits.fin N K .ret) kv)) = (spec_l02Counits.b0 N (fun d0 => K (.bool (d0)) []) (fun j3 gv4 gv5 => xloop (xcode (E16 N) ents spec_l02Counits.kp 0 N (cL (cK (cB (cA (cB (cK (cA (cB (cL (cK (cB (cA (cB spec_l02Counits.bd))))))))))))) 2) spec_l02Counits.kp 0 2 N (spec_l02Counits.st1 c0 c1 i2 j3 gv4 gv5) (spec_l02Counits.k1g N L0 (mixK (spec_l02Counits.fin N K .ret) kv))) (fun i2 => L0 (spec_l02Counits.st0 c0 c1 i2)) (kv (.exit 0) (spec_l02Counits.sx0_0)) c0 i2) := by kernel_rfl
theorem spec_l02Counits.b0_eq {ρ : Type} (N : Nat) (K : AV → Heap → Option ρ) (L0 : St → Option ρ) (c0 : Nat → Int) (c1 : Nat → Int) (i2 : Int) :
    xcode (E16 N) ents spec_l02Counits.kp 0 N (cL (cK (cB (cA (cB spec_l02Counits.bd))))) 0 (spec_l02Counits.st0 c0 c1 i2) (roundK spec_l02Counits.kp 0 0 L0 (spec_l02Counits.k0 N K)) = (spec_l02Counits.b0 N (fun d0 => K (.bool (d0)) []) (fun j3 gv4 gv5 => xloop (xcode (E16 N) ents spec_l02Counits.kp 0 N (cL (cK (cB (cA (cB (cK (cA (cB (cL (cK (cB (cA (cB spec_l02Counits.bd))))))))))))) 2) spec_l02Counits.kp 0 2 N (spec_l02Counits.st1 c0 c1 i2 j3 gv4 gv5) (spec_l02Counits.k1g N L0 (spec_l02Counits.k0 N K))) (fun i2 => L0 (spec_l02Counits.st0 c0 c1 i2)) ((spec_l02Counits.k0 N K) (.exit 0) (spec_l02Counits.sx0_0)) c0 i2) := by
  have h := spec_l02Counits.b0_gen N K L0 (spec_l02Counits.k0 N K) c0 c1 i2
  rw [spec_l02Counits.k0_mix] at h
  exact h
theorem spec_l02Counits.a0_0_eq {ρ : Type} (N : Nat) (K : AV → Heap → Option ρ) :
    (spec_l02Counits.k0 N K) (.exit 0) (spec_l02Counits.sx0_0) = (spec_l02Counits.a0_0 N (fun d0 => K (.bool (d0)) [])) := by kernel_rfl
theorem spec_l02Counits.l2_eq {ρ : Type} (N : Nat) (K : AV → Heap → Option ρ) (L0 : St → Option ρ) (L1 : St → Option ρ) (c0 : Nat → Int) (c1 : Nat → Int) (i2 : Int) (j3 : Int) (gv5 : Nat → Int) (rv6 : Nat → Int) :
    ∀ (m : Nat) (sum7 : Int) (k8 : Int), xloop (xcode (E16 N) ents spec_l02Counits.kp 0 N (cL (cK (cB (cA (cB (cB (cK (cA (cB (cL (cK (cB (cA (cB (cK (cA (cB (cL (cK (cB (cA (cB spec_l02Counits.bd)))))))))))))))))))))) 4) spec_l02Counits.kp 0 4 m (spec_l02Counits.st2 c0 c1 i2 j3 gv5 rv6 sum7 k8) (spec_l02Counits.k2g N L1 (spec_l02Counits.k1g N L0 (spec_l02Counits.k0 N K))) = (spec_l02Counits.l2 N (fun d0 => K (.bool (d0)) []) c0 c1 i2 j3 (fun ov9 => (spec_l02Counits.k2g N L1 (spec_l02Counits.k1g N L0 (spec_l02Counits.k0 N K))) (.exit 4) (spec_l02Counits.sx2_0 c0 c1 i2 j3 gv5 rv6 ov9)) m sum7 k8) := by
  intro m
  induction m with
  | zero => intros; rfl
  | succ m ih =>
    intro sum7 k8
    refine (spec_l02Counits.b2_eq N K L0 L1 (fun s => xloop (xcode (E16 N) ents spec_l02Counits.kp 0 N (cL (cK (cB (cA (cB (cB (cK (cA (cB (cL (cK (cB (cA (cB (cK (cA (cB (cL (cK (cB (cA (cB spec_l02Counits.bd)))))))))))))))))))))) 4) spec_l02Counits.kp 0 4 m s (spec_l02Counits.k2g N L1 (spec_l02Counits.k1g N L0 (spec_l02Counits.k0 N K)))) c0 c1 i2 j3 gv5 rv6 sum7 k8).trans ?_
    simp only [ih]
    kernel_rfl
theorem spec_l02Counits.l1_eq {ρ : Type} (N : Nat) (K : AV → Heap → Option ρ) (L0 : St → Option ρ) (c0 : Nat → Int) (c1 : Nat → Int) (i2 : Int) :
    ∀ (m : Nat) (j3 : Int) (gv4 : Nat → Int) (gv5 : Nat → Int), xloop (xcode (E16 N) ents spec_l02Counits.kp 0 N (cL (cK (cB (cA (cB (cK (cA (cB (cL (cK (cB (cA (cB spec_l02Counits.bd))))))))))))) 2) spec_l02Counits.kp 0 2 m (spec_l02Counits.st1 c0 c1 i2 j3 gv4 gv5) (spec_l02Counits.k1g N L0 (spec_l02Counits.k0 N K)) = (spec_l02Counits.l1 N (fun d0 => K (.bool (d0)) []) c0 c1 i2 (fun ov11 ov12 => (spec_l02Counits.k1g N L0 (spec_l02Counits.k0 N K)) (.exit 2) (spec_l02Counits.sx1_0 c0 c1 i2 ov11 ov12)) m j3 gv4 gv5) := by
  intro m
  induction m with
  | zero => intros; rfl
  | succ m ih =>
    intro j3 gv4 gv5
    refine (spec_l02Counits.b1_eq N K L0 (fun s => xloop (xcode (E16 N) ents spec_l02Counits.kp 0 N (cL (cK (cB (cA (cB (cK (cA (cB (cL (cK (cB (cA (cB spec_l02Counits.bd))))))))))))) 2) spec_l02Counits.kp 0 2 m s (spec_l02Counits.k1g N L0 (spec_l02Counits.k0 N K))) c0 c1 i2 j3 gv4 gv5).trans ?_
    simp only [ih, spec_l02Counits.l2_eq, spec_l02Counits.a2_0_eq]
    kernel_rfl
theorem spec_l02Counits.l0_eq {ρ : Type} (N : Nat) (K : AV → Heap → Option ρ) (c0 : Nat → Int) (c1 : Nat → Int) :
    ∀ (m : Nat) (i2 : Int), xloop (xcode (E16 N) ents spec_l02Counits.kp 0 N (cL (cK (cB (cA (cB spec_l02Counits.bd))))) 0) spec_l02Counits.kp 0 0 m (spec_l02Counits.st0 c0 c1 i2) (spec_l02Counits.k0 N K) = (spec_l02Counits.l0 N (fun d0 => K (.bool (d0)) []) c0 c1 ((spec_l02Counits.k0 N K) (.exit 0) (spec_l02Counits.sx0_0)) m i2) := by
  intro m
  induction m with
  | zero => intros; rfl
  | succ m ih =>
    intro i2
    refine (spec_l02Counits.b0_eq N K (fun s => xloop (xcode (E16 N) ents spec_l02Counits.kp 0 N (cL (cK (cB (cA (cB spec_l02Counits.bd))))) 0) spec_l02Counits.kp 0 0 m s (spec_l02Counits.k0 N K)) c0 c1 i2).trans ?_
    simp only [ih, spec_l02Counits.l1_eq, spec_l02Counits.a1_0_eq]
    kernel_rfl
theorem spec_l02Counits.s_eq {ρ : Type} (N : Nat) (K : AV → Heap → Option ρ) (c0 : Nat → Int) (c1 : Nat → Int) :
    xbody (E16 N) ents spec_l02Counits.kp N Try.f93 spec_l02Counits.bd [.agg [⟨.i64, 2, c0⟩, ⟨.u8, 520, c1⟩]] [] K = (spec_l02Counits.s N (fun d0 => K (.bool (d0)) []) (fun i2 => xloop (xcode (E16 N) ents spec_l02Counits.kp 0 N (cL (cK (cB (cA (cB spec_l02Counits.bd))))) 0) spec_l02Counits.kp 0 0 N (spec_l02Counits.st0 c0 c1 i2) (spec_l02Counits.k0 N K))) := by kernel_rfl
theorem spec_l02Counits.eq {ρ : Type} (N : Nat) (K : AV → Heap → Option ρ) (c0 : Nat → Int) (c1 : Nat → Int) :
    xbody (E16 N) ents spec_l02Counits.kp N Try.f93 spec_l02Counits.bd [.agg [⟨.i64, 2, c0⟩, ⟨.u8, 520, c1⟩]] [] K = (spec_l02Counits N (fun d0 => K (.bool (d0)) []) c0 c1) := by
  refine (spec_l02Counits.s_eq N K c0 c1).trans ?_
  simp only [spec_l02Counits.l0_eq, spec_l02Counits.a0_0_eq]
  kernel_rfl
def spec_l02Counits.en (N : Nat) (ρ : Type) : List AV → Heap → (AV → Heap → Option ρ) → Option ρ
  | [.agg [⟨.i64, 2, c0⟩, ⟨.u8, 520, c1⟩]], [], K => (spec_l02Counits N (fun d0 => K (.bool (d0)) []) c0 c1)
  | _, _, _ => none
theorem spec_l02Counits.en_ok (N : Nat) (hE : EnvOk (E16 N) ents) (ρ : Type) (args : List AV) (sh : Heap) (K : AV → Heap → Option ρ) (r : ρ) (h : spec_l02Counits.en N ρ args sh K = some r) : ∃ v sh', K v sh' = some r ∧ FnOk (E16 N).P 93 args sh v sh' := by
  unfold spec_l02Counits.en at h
  split at h
  · exact fn_ok hE (kp := spec_l02Counits.kp) (N := N) Try.func93 (c := spec_l02Counits.bd) (by kernel_rfl) ((spec_l02Counits.eq N _ _ _).trans h)
  · cases h
def E17 (N : Nat) : Env := (E16 N).add 93 (spec_l02Counits.en N)
theorem E17_ok (N : Nat) : EnvOk (E17 N) ents := Env.add_ok (E16_ok N) (spec_l02Counits.en_ok N (E16_ok N))
def spec_l02Is.kp : Keeps := ⟨[], [], []⟩
def spec_l02Is.bd : Code := bodyOf Try.f53
def spec_l02Is.fin {ρ : Type} (N : Nat) (K : AV → Heap → Option ρ) : XE → St → Option ρ := finK (E17 N) spec_l02Is.kp.fins Try.f53 [] K
theorem spec_l02Is.eq {ρ : Type} (N : Nat) (K : AV → Heap → Option ρ) (c0 : Nat → Int) (c1 : Nat → Int) :
    xbody (E17 N) ents spec_l02Is.kp N Try.f53 spec_l02Is.bd [.agg [⟨.i64, 2, c0⟩, ⟨.u8, 520, c1⟩]] [] K = (spec_l02Is N (fun d0 => K (.bool (d0)) []) c0 c1) := by kernel_rfl
def spec_l02Is.en (N : Nat) (ρ : Type) : List AV → Heap → (AV → Heap → Option ρ) → Option ρ
  | [.agg [⟨.i64, 2, c0⟩, ⟨.u8, 520, c1⟩]], [], K => (spec_l02Is N (fun d0 => K (.bool (d0)) []) c0 c1)
  | _, _, _ => none
theorem spec_l02Is.en_ok (N : Nat) (hE : EnvOk (E17 N) ents) (ρ : Type) (args : List AV) (sh : Heap) (K : AV → Heap → Option ρ) (r : ρ) (h : spec_l02Is.en N ρ args sh K = some r) : ∃ v sh', K v sh' = some r ∧ FnOk (E17 N).P 53 args sh v sh' := by
  unfold spec_l02Is.en at h
  split at h
  · exact fn_ok hE (kp := spec_l02Is.kp) (N := N) Try.func53 (c := spec_l02Is.bd) (by kernel_rfl) ((spec_l02Is.eq N _ _ _).trans h)
  · cases h
def E18 (N : Nat) : Env := (E17 N).add 53 (spec_l02Is.en N)
theorem E18_ok (N : Nat) : EnvOk (E18 N) ents := Env.add_ok (E17_ok N) (spec_l02Is.en_ok N (E17_ok N))
def spec_l02Code_s.kp : Keeps := ⟨[(0, [1, 2, 5], [], [])], [(0, [], [], [])], []⟩
def spec_l02Code_s.bd : Code := bodyOf Try.f61
def spec_l02Code_s.fin {ρ : Type} (N : Nat) (K : AV → Heap → Option ρ) (gv4 : Nat) (gv5 : Nat → Int) : XE → St → Option ρ := finK (E18 N) spec_l02Code_s.kp.fins Try.f61 [⟨false, .flat gv4 (.ints .u8 gv5)⟩] K
def spec_l02Code_s.k0 {ρ : Type} (N : Nat) (K : AV → Heap → Option ρ) (gv4 : Nat) (gv5 : Nat → Int) : XE → St → Option ρ := (blockK spec_l02Code_s.kp 1 0 (seqK (xcode (E18 N) ents spec_l02Code_s.kp 1 N (cB (cB (cB spec_l02Code_s.bd))) 0) (spec_l02Code_s.fin N K gv4 gv5)))
theorem spec_l02Code_s.k0_mix {ρ : Type} (N : Nat) (K : AV → Heap → Option ρ) (gv4 : Nat) (gv5 : Nat → Int) : mixK (spec_l02Code_s.fin N K gv4 gv5 .ret) (spec_l02Code_s.k0 N K gv4 gv5) = (spec_l02Code_s.k0 N K gv4 gv5) := by
  funext e s; cases e <;> kernel_rfl
def spec_l02Code_s.st0 (c0 : Nat → Int) (c1 : Nat → Int) (list2 : Nat) (list3 : Nat) (gv4 : Nat) (gv5 : Nat → Int) (i7 : Int) : St := ⟨sl 25 [(1, .slice true 0 0 list2 (.exact list3) 8), (2, .sptr [(1, 2), (2, 520)]), (5, .int .i64 (i7))], [⟨false, .flat gv4 (.ints .u8 gv5)⟩, ⟨true, .flat 2 (.ints .i64 c0)⟩, ⟨true, .flat 520 (.ints .u8 c1)⟩]⟩
def spec_l02Code_s.sx0_0 (gv4 : Nat) (gv5 : Nat → Int) : St := ⟨sl 25 [], [⟨false, .flat gv4 (.ints .u8 gv5)⟩]⟩
theorem spec_l02Code_s.b0_gen {ρ : Type} (N : Nat) (K : AV → Heap → Option ρ) (L0 : St → Option ρ) (kv : XE → St → Option ρ) (c0 : Nat → Int) (c1 : Nat → Int) (list2 : Nat) (list3 : Nat) (gv4 : Nat) (gv5 : Nat → Int) (i7 : Int) :
    xcode (E18 N) ents spec_l02Code_s.kp 1 N (cL (cK (cB (cA (cB (cB spec_l02Code_s.bd)))))) 0 (spec_l02Code_s.st0 c0 c1 list2 list3 gv4 gv5 i7) (roundK spec_l02Code_s.kp 1 0 L0 (mixK (spec_l02Code_s.fin N K gv4 gv5 .ret) kv)) = (spec_l02Code_s.b0 N (fun d0 => K (.int .i64 (d0)) [⟨false, .flat gv4 (.ints .u8 gv5)⟩]) (fun i7 => L0 (spec_l02Code_s.st0 c0 c1 list2 list3 gv4 gv5 i7)) (kv (.exit 0) (spec_l02Code_s.sx0_0 gv4 gv5)) c0 list2 gv5 i7) := by kernel_rfl
theorem spec_l02Code_s.b0_eq {ρ : Type} (N : Nat) (K : AV → Heap → Option ρ) (L0 : St → Option ρ) (c0 : Nat → Int) (c1 : Nat → Int) (list2 : Nat) (list3 : Nat) (gv4 : Nat) (gv5 : Nat → Int) (i7 : Int) :
    xcode (E18 N) ents spec_l02Code_s.kp 1 N (cL (cK (cB (cA (cB (cB spec_l02Code_s.bd)))))) 0 (spec_l02Code_s.st0 c0 c1 list2 list3 gv4 gv5 i7) (roundK spec_l02Code_s.kp 1 0 L0 (spec_l02Code_s.k0 N K gv4 gv5)) = (spec_l02Code_s.b0 N (fun d0 => K (.int .i64 (d0)) [⟨false, .flat gv4 (.ints .u8 gv5)⟩]) (fun i7 => L0 (spec_l02Code_s.st0 c0 c1 list2 list3 gv4 gv5 i7)) ((spec_l02Code_s.k0 N K gv4 gv5) (.exit 0) (spec_l02Code_s.sx0_0 gv4 gv5)) c0 list2 gv5 i7) := by
  have h := spec_l02Code_s.b0_gen N K L0 (spec_l02Code_s.k0 N K gv4 gv5) c0 c1 list2 list3 gv4 gv5 i7
  rw [spec_l02Code_s.k0_mix] at h
  exact h
theorem spec_l02Code_s.a0_0_eq {ρ : Type} (N : Nat) (K : AV → Heap → Option ρ) (gv4 : Nat) (gv5 : Nat → Int) :
    (spec_l02Code_s.k0 N K gv4 gv5) (.exit 0) (spec_l02Code_s.sx0_0 gv4 gv5) = (spec_l02Code_s.a0_0 N (fun d0 => K (.int .i64 (d0)) [⟨false, .flat gv4 (.ints .u8 gv5)⟩])) := by kernel_rfl
theorem spec_l02Code_s.l0_eq {ρ : Type} (N : Nat) (K : AV → Heap → Option ρ) (c0 : Nat → Int) (c1 : Nat → Int) (list2 : Nat) (list3 : Nat) (gv4 : Nat) (gv5 : Nat → Int) :
    ∀ (m : Nat) (i7 : Int), xloop (xcode (E18 N) ents spec_l02Code_s.kp 1 N (cL (cK (cB (cA (cB (cB spec_l02Code_s.bd)))))) 0) spec_l02Code_s.kp 1 0 m (spec_l02Code_s.st0 c0 c1 list2 list3 gv4 gv5 i7) (spec_l02Code_s.k0 N K gv4 gv5) = (spec_l02Code_s.l0 N (fun d0 => K (.int .i64 (d0)) [⟨false, .flat gv4 (.ints .u8 gv5)⟩]) c0 list2 gv5 ((spec_l02Code_s.k0 N K gv4 gv5) (.exit 0) (spec_l02Code_s.sx0_0 gv4 gv5)) m i7) := by
  intro m
  induction m with
  | zero => intros; rfl
  | succ m ih =>
    intro i7
    refine (spec_l02Code_s.b0_eq N K (fun s => xloop (xcode (E18 N) ents spec_l02Code_s.kp 1 N (cL (cK (cB (cA (cB (cB spec_l02Code_s.bd)))))) 0) spec_l02Code_s.kp 1 0 m s (spec_l02Code_s.k0 N K gv4 gv5)) c0 c1 list2 list3 gv4 gv5 i7).trans ?_
    simp only [ih]
    kernel_rfl
theorem spec_l02Code_s.s_eq {ρ : Type} (N : Nat) (K : AV → Heap → Option ρ) (c0 : Nat → Int) (c1 : Nat → Int) (list2 : Nat) (list3 : Nat) (gv4 : Nat) (gv5 : Nat → Int) :
    xbody (E18 N) ents spec_l02Code_s.kp N Try.f61 spec_l02Code_s.bd [.agg [⟨.i64, 2, c0⟩, ⟨.u8, 520, c1⟩], .slice true 0 0 list2 (.exact list3) 8] [⟨false, .flat gv4 (.ints .u8 gv5)⟩] K = (spec_l02Code_s.s N (fun d0 => K (.int .i64 (d0)) [⟨false, .flat gv4 (.ints .u8 gv5)⟩]) (fun i7 => xloop (xcode (E18 N) ents spec_l02Code_s.kp 1 N (cL (cK (cB (cA (cB (cB spec_l02Code_s.bd)))))) 0) spec_l02Code_s.kp 1 0 N (spec_l02Code_s.st0 c0 c1 list2 list3 gv4 gv5 i7) (spec_l02Code_s.k0 N K gv4 gv5)) c0 c1) := by kernel_rfl
theorem spec_l02Code_s.eq {ρ : Type} (N : Nat) (K : AV → Heap → Option ρ) (c0 : Nat → Int) (c1 : Nat → Int) (list2 : Nat) (list3 : Nat) (gv4 : Nat) (gv5 : Nat → Int) :
    xbody (E18 N) ents spec_l02Code_s.kp N Try.f61 spec_l02Code_s.bd [.agg [⟨.i64, 2, c0⟩, ⟨.u8, 520, c1⟩], .slice true 0 0 list2 (.exact list3) 8] [⟨false, .flat gv4 (.ints .u8 gv5)⟩] K = (spec_l02Code_s N (fun d0 => K (.int .i64 (d0)) [⟨false, .flat gv4 (.ints .u8 gv5)⟩]) c0 c1 list2 list3 gv4 gv5) := by
  refine (spec_l02Code_s.s_eq N K c0 c1 list2 list3 gv4 gv5).trans ?_
  simp only [spec_l02Code_s.l0_eq, spec_l02Code_s.a0_0_eq]
  kernel_rfl
def spec_l02Code_s.en (N : Nat) (ρ : Type) : List AV → Heap → (AV → Heap → Option ρ) → Option ρ
  | [.agg [⟨.i64, 2, c0⟩, ⟨.u8, 520, c1⟩], .slice true 0 0 list2 (.exact list3) 8], [⟨false, .flat gv4 (.ints .u8 gv5)⟩], K => (spec_l02Code_s N (fun d0 => K (.int .i64 (d0)) [⟨false, .flat gv4 (.ints .u8 gv5)⟩]) c0 c1 list2 list3 gv4 gv5)
  | _, _, _ => none
theorem spec_l02Code_s.en_ok (N : Nat) (hE : EnvOk (E18 N) ents) (ρ : Type) (args : List AV) (sh : Heap) (K : AV → Heap → Option ρ) (r : ρ) (h : spec_l02Code_s.en N ρ args sh K = some r) : ∃ v sh', K v sh' = some r ∧ FnOk (E18 N).P 61 args sh v sh' := by
  unfold spec_l02Code_s.en at h
  split at h
  · exact fn_ok hE (kp := spec_l02Code_s.kp) (N := N) Try.func61 (c := spec_l02Code_s.bd) (by kernel_rfl) ((spec_l02Code_s.eq N _ _ _ _ _ _ _).trans h)
  · cases h
def E19 (N : Nat) : Env := (E18 N).add 61 (spec_l02Code_s.en N)
theorem E19_ok (N : Nat) : EnvOk (E19 N) ents := Env.add_ok (E18_ok N) (spec_l02Code_s.en_ok N (E18_ok N))
def spec_l02Counit.kp : Keeps := ⟨[(0, [2, 3, 5, 6], [], [])], [(0, [2, 5], [], [])], []⟩
def spec_l02Counit.bd : Code := bodyOf Try.f62
def spec_l02Counit.fin {ρ : Type} (N : Nat) (K : AV → Heap → Option ρ) : XE → St → Option ρ := finK (E19 N) spec_l02Counit.kp.fins Try.f62 [] K
def spec_l02Counit.k0 {ρ : Type} (N : Nat) (K : AV → Heap → Option ρ) : XE → St → Option ρ := (blockK spec_l02Counit.kp 0 0 (seqK (xcode (E19 N) ents spec_l02Counit.kp 0 N (cB (cB (cB spec_l02Counit.bd))) 0) (spec_l02Counit.fin N K)))
theorem spec_l02Counit.k0_mix {ρ : Type} (N : Nat) (K : AV → Heap → Option ρ) : mixK (spec_l02Counit.fin N K .ret) (spec_l02Counit.k0 N K) = (spec_l02Counit.k0 N K) := by
  funext e s; cases e <;> kernel_rfl
def spec_l02Counit.st0 (c0 : Nat → Int) (c1 : Nat → Int) (v2 : Nat → Int) (sum3 : Int) (i4 : Int) : St := ⟨sl 27 [(2, .sptr [(0, 2), (1, 520)]), (3, .sptr [(2, 8)]), (5, .int .i64 (sum3)), (6, .int .i64 (i4))], [⟨true, .flat 2 (.ints .i64 c0)⟩, ⟨true, .flat 520 (.ints .u8 c1)⟩, ⟨true, .flat 8 (.ints .u8 v2)⟩]⟩
def spec_l02Counit.sx0_0 (c0 : Nat → Int) (c1 : Nat → Int) (ov5 : Int) : St := ⟨sl 27 [(2, .sptr [(0, 2), (1, 520)]), (5, .int .i64 (ov5))], [⟨true, .flat 2 (.ints .i64 c0)⟩, ⟨true, .flat 520 (.ints .u8 c1)⟩]⟩
theorem spec_l02Counit.b0_gen {ρ : Type} (N : Nat) (K : AV → Heap → Option ρ) (L0 : St → Option ρ) (kv : XE → St → Option ρ) (c0 : Nat → Int) (c1 : Nat → Int) (v2 : Nat → Int) (sum3 : Int) (i4 : Int) :
    xcode (E19 N) ents spec_l02Counit.kp 0 N (cL (cK (cB (cA (cB (cB spec_l02Counit.bd)))))) 0 (spec_l02Counit.st0 c0 c1 v2 sum3 i4) (roundK spec_l02Counit.kp 0 0 L0 (mixK (spec_l02Counit.fin N K .ret) kv)) = (spec_l02Counit.b0 N (fun d0 => K (.int .i64 (d0)) []) (fun sum3 i4 => L0 (spec_l02Counit.st0 c0 c1 v2 sum3 i4)) (fun ov5 => kv (.exit 0) (spec_l02Counit.sx0_0 c0 c1 ov5)) c1 v2 sum3 i4) := by kernel_rfl
theorem spec_l02Counit.b0_eq {ρ : Type} (N : Nat) (K : AV → Heap → Option ρ) (L0 : St → Option ρ) (c0 : Nat → Int) (c1 : Nat → Int) (v2 : Nat → Int) (sum3 : Int) (i4 : Int) :
    xcode (E19 N) ents spec_l02Counit.kp 0 N (cL (cK (cB (cA (cB (cB spec_l02Counit.bd)))))) 0 (spec_l02Counit.st0 c0 c1 v2 sum3 i4) (roundK spec_l02Counit.kp 0 0 L0 (spec_l02Counit.k0 N K)) = (spec_l02Counit.b0 N (fun d0 => K (.int .i64 (d0)) []) (fun sum3 i4 => L0 (spec_l02Counit.st0 c0 c1 v2 sum3 i4)) (fun ov5 => (spec_l02Counit.k0 N K) (.exit 0) (spec_l02Counit.sx0_0 c0 c1 ov5)) c1 v2 sum3 i4) := by
  have h := spec_l02Counit.b0_gen N K L0 (spec_l02Counit.k0 N K) c0 c1 v2 sum3 i4
  rw [spec_l02Counit.k0_mix] at h
  exact h
theorem spec_l02Counit.a0_0_eq {ρ : Type} (N : Nat) (K : AV → Heap → Option ρ) (c0 : Nat → Int) (c1 : Nat → Int) (ov5 : Int) :
    (spec_l02Counit.k0 N K) (.exit 0) (spec_l02Counit.sx0_0 c0 c1 ov5) = (spec_l02Counit.a0_0 N (fun d0 => K (.int .i64 (d0)) []) c0 ov5) := by kernel_rfl
theorem spec_l02Counit.l0_eq {ρ : Type} (N : Nat) (K : AV → Heap → Option ρ) (c0 : Nat → Int) (c1 : Nat → Int) (v2 : Nat → Int) :
    ∀ (m : Nat) (sum3 : Int) (i4 : Int), xloop (xcode (E19 N) ents spec_l02Counit.kp 0 N (cL (cK (cB (cA (cB (cB spec_l02Counit.bd)))))) 0) spec_l02Counit.kp 0 0 m (spec_l02Counit.st0 c0 c1 v2 sum3 i4) (spec_l02Counit.k0 N K) = (spec_l02Counit.l0 N (fun d0 => K (.int .i64 (d0)) []) c1 v2 (fun ov5 => (spec_l02Counit.k0 N K) (.exit 0) (spec_l02Counit.sx0_0 c0 c1 ov5)) m sum3 i4) := by
  intro m
  induction m with
  | zero => intros; rfl
  | succ m ih =>
    intro sum3 i4
    refine (spec_l02Counit.b0_eq N K (fun s => xloop (xcode (E19 N) ents spec_l02Counit.kp 0 N (cL (cK (cB (cA (cB (cB spec_l02Counit.bd)))))) 0) spec_l02Counit.kp 0 0 m s (spec_l02Counit.k0 N K)) c0 c1 v2 sum3 i4).trans ?_
    simp only [ih]
    kernel_rfl
theorem spec_l02Counit.s_eq {ρ : Type} (N : Nat) (K : AV → Heap → Option ρ) (c0 : Nat → Int) (c1 : Nat → Int) (v2 : Nat → Int) :
    xbody (E19 N) ents spec_l02Counit.kp N Try.f62 spec_l02Counit.bd [.agg [⟨.i64, 2, c0⟩, ⟨.u8, 520, c1⟩], .agg [⟨.u8, 8, v2⟩]] [] K = (spec_l02Counit.s N (fun d0 => K (.int .i64 (d0)) []) (fun sum3 i4 => xloop (xcode (E19 N) ents spec_l02Counit.kp 0 N (cL (cK (cB (cA (cB (cB spec_l02Counit.bd)))))) 0) spec_l02Counit.kp 0 0 N (spec_l02Counit.st0 c0 c1 v2 sum3 i4) (spec_l02Counit.k0 N K))) := by kernel_rfl
theorem spec_l02Counit.eq {ρ : Type} (N : Nat) (K : AV → Heap → Option ρ) (c0 : Nat → Int) (c1 : Nat → Int) (v2 : Nat → Int) :
    xbody (E19 N) ents spec_l02Counit.kp N Try.f62 spec_l02Counit.bd [.agg [⟨.i64, 2, c0⟩, ⟨.u8, 520, c1⟩], .agg [⟨.u8, 8, v2⟩]] [] K = (spec_l02Counit N (fun d0 => K (.int .i64 (d0)) []) c0 c1 v2) := by
  refine (spec_l02Counit.s_eq N K c0 c1 v2).trans ?_
  simp only [spec_l02Counit.l0_eq, spec_l02Counit.a0_0_eq]
  kernel_rfl
def spec_l02Counit.en (N : Nat) (ρ : Type) : List AV → Heap → (AV → Heap → Option ρ) → Option ρ
  | [.agg [⟨.i64, 2, c0⟩, ⟨.u8, 520, c1⟩], .agg [⟨.u8, 8, v2⟩]], [], K => (spec_l02Counit N (fun d0 => K (.int .i64 (d0)) []) c0 c1 v2)
  | _, _, _ => none
theorem spec_l02Counit.en_ok (N : Nat) (hE : EnvOk (E19 N) ents) (ρ : Type) (args : List AV) (sh : Heap) (K : AV → Heap → Option ρ) (r : ρ) (h : spec_l02Counit.en N ρ args sh K = some r) : ∃ v sh', K v sh' = some r ∧ FnOk (E19 N).P 62 args sh v sh' := by
  unfold spec_l02Counit.en at h
  split at h
  · exact fn_ok hE (kp := spec_l02Counit.kp) (N := N) Try.func62 (c := spec_l02Counit.bd) (by kernel_rfl) ((spec_l02Counit.eq N _ _ _ _).trans h)
  · cases h
def E20 (N : Nat) : Env := (E19 N).add 62 (spec_l02Counit.en N)
theorem E20_ok (N : Nat) : EnvOk (E20 N) ents := Env.add_ok (E19_ok N) (spec_l02Counit.en_ok N (E19_ok N))
def spec_l02Coproduct.kp : Keeps := ⟨[(0, [2, 3, 4, 5, 6], [], []), (2, [2, 3, 4, 5, 6, 7], [], [])], [(0, [4, 5], [], []), (2, [2, 3, 4, 5, 6], [], [])], []⟩
def spec_l02Coproduct.bd : Code := bodyOf Try.f67
def spec_l02Coproduct.fin {ρ : Type} (N : Nat) (K : AV → Heap → Option ρ) : XE → St → Option ρ := finK (E20 N) spec_l02Coproduct.kp.fins Try.f67 [] K
def spec_l02Coproduct.k0 {ρ : Type} (N : Nat) (K : AV → Heap → Option ρ) : XE → St → Option ρ := (blockK spec_l02Coproduct.kp 0 0 (seqK (xcode (E20 N) ents spec_l02Coproduct.kp 0 N (cB (cB (cB spec_l02Coproduct.bd))) 0) (spec_l02Coproduct.fin N K)))
theorem spec_l02Coproduct.k0_mix {ρ : Type} (N : Nat) (K : AV → Heap → Option ρ) : mixK (spec_l02Coproduct.fin N K .ret) (spec_l02Coproduct.k0 N K) = (spec_l02Coproduct.k0 N K) := by
  funext e s; cases e <;> kernel_rfl
def spec_l02Coproduct.st0 (c0 : Nat → Int) (c1 : Nat → Int) (v2 : Nat → Int) (i3 : Int) (gv4 : Nat → Int) : St := ⟨sl 40 [(2, .sptr [(0, 2), (1, 520)]), (3, .sptr [(2, 8)]), (4, .sptr [(3, 64)]), (5, .sptr [(4, 64)]), (6, .int .i64 (i3))], [⟨true, .flat 2 (.ints .i64 c0)⟩, ⟨true, .flat 520 (.ints .u8 c1)⟩, ⟨true, .flat 8 (.ints .u8 v2)⟩, ⟨true, .flat 64 (.ints .u8 (fun _ => 0))⟩, ⟨true, .flat 64 (.ints .u8 gv4)⟩]⟩
def spec_l02Coproduct.sx0_0 (ov9 : Nat → Int) : St := ⟨sl 40 [(4, .sptr [(0, 64)]), (5, .sptr [(1, 64)])], [⟨true, .flat 64 (.ints .u8 (fun _ => 0))⟩, ⟨true, .flat 64 (.ints .u8 ov9)⟩]⟩
def spec_l02Coproduct.k1g {ρ : Type} (N : Nat) (L0 : St → Option ρ) (kv : XE → St → Option ρ) : XE → St → Option ρ := (blockK spec_l02Coproduct.kp 0 2 (blockK spec_l02Coproduct.kp 0 1 (seqK (xcode (E20 N) ents spec_l02Coproduct.kp 0 N (cB (cB (cL (cK (cB (cA (cB (cB spec_l02Coproduct.bd)))))))) 0) (roundK spec_l02Coproduct.kp 0 0 L0 kv))))
theorem spec_l02Coproduct.k1_mix {ρ : Type} (N : Nat) (K : AV → Heap → Option ρ) (L0 : St → Option ρ) : mixK (spec_l02Coproduct.fin N K .ret) (spec_l02Coproduct.k1g N L0 (spec_l02Coproduct.k0 N K)) = (spec_l02Coproduct.k1g N L0 (spec_l02Coproduct.k0 N K)) := by
  funext e s; cases e <;> kernel_rfl
def spec_l02Coproduct.st1 (c0 : Nat → Int) (c1 : Nat → Int) (v2 : Nat → Int) (i3 : Int) (j5 : Int) (gv6 : Nat → Int) : St := ⟨sl 40 [(2, .sptr [(0, 2), (1, 520)]), (3, .sptr [(2, 8)]), (4, .sptr [(3, 64)]), (5, .sptr [(4, 64)]), (6, .int .i64 (i3)), (7, .int .i64 (j5))], [⟨true, .flat 2 (.ints .i64 c0)⟩, ⟨true, .flat 520 (.ints .u8 c1)⟩, ⟨true, .flat 8 (.ints .u8 v2)⟩, ⟨true, .flat 64 (.ints .u8 (fun _ => 0))⟩, ⟨true, .flat 64 (.ints .u8 gv6)⟩]⟩
def spec_l02Coproduct.sx1_0 (c0 : Nat → Int) (c1 : Nat → Int) (v2 : Nat → Int) (i3 : Int) (ov8 : Nat → Int) : St := ⟨sl 40 [(2, .sptr [(0, 2), (1, 520)]), (3, .sptr [(2, 8)]), (4, .sptr [(3, 64)]), (5, .sptr [(4, 64)]), (6, .int .i64 (i3))], [⟨true, .flat 2 (.ints .i64 c0)⟩, ⟨true, .flat 520 (.ints .u8 c1)⟩, ⟨true, .flat 8 (.ints .u8 v2)⟩, ⟨true, .flat 64 (.ints .u8 (fun _ => 0))⟩, ⟨true, .flat 64 (.ints .u8 ov8)⟩]⟩
theorem spec_l02Coproduct.b1_gen {ρ : Type} (N : Nat) (K : AV → Heap → Option ρ) (L1 : St → Option ρ) (kv : XE → St → Option ρ) (c0 : Nat → Int) (c1 : Nat → Int) (v2 : Nat → Int) (i3 : Int) (j5 : Int) (gv6 : Nat → Int) :
    xcode (E20 N) ents spec_l02Coproduct.kp 0 N (cL (cK (cB (cK (cA (cB (cL (cK (cB (cA (cB (cB spec_l02Coproduct.bd)))))))))))) 2 (spec_l02Coproduct.st1 c0 c1 v2 i3 j5 gv6) (roundK spec_l02Coproduct.kp 0 2 L1 (mixK (spec_l02Coproduct.fin N K .ret) kv)) = (spec_l02Coproduct.b1 N (fun d0 => K (.agg [⟨.u8, 64, d0⟩]) []) (fun j5 gv6 => L1 (spec_l02Coproduct.st1 c0 c1 v2 i3 j5 gv6)) (fun ov8 => kv (.exit 2) (spec_l02Coproduct.sx1_0 c0 c1 v2 i3 ov8)) c0 c1 v2 i3 j5 gv6) := by kernel_rfl
theorem spec_l02Coproduct.b1_eq {ρ : Type} (N : Nat) (K : AV → Heap → Option ρ) (L0 : St → Option ρ) (L1 : St → Option ρ) (c0 : Nat → Int) (c1 : Nat → Int) (v2 : Nat → Int) (i3 : Int) (j5 : Int) (gv6 : Nat → Int) :
    xcode (E20 N) ents spec_l02Coproduct.kp 0 N (cL (cK (cB (cK (cA (cB (cL (cK (cB (cA (cB (cB spec_l02Coproduct.bd)))))))))))) 2 (spec_l02Coproduct.st1 c0 c1 v2 i3 j5 gv6) (roundK spec_l02Coproduct.kp 0 2 L1 (spec_l02Coproduct.k1g N L0 (spec_l02Coproduct.k0 N K))) = (spec_l02Coproduct.b1 N (fun d0 => K (.agg [⟨.u8, 64, d0⟩]) []) (fun j5 gv6 => L1 (spec_l02Coproduct.st1 c0 c1 v2 i3 j5 gv6)) (fun ov8 => (spec_l02Coproduct.k1g N L0 (spec_l02Coproduct.k0 N K)) (.exit 2) (spec_l02Coproduct.sx1_0 c0 c1 v2 i3 ov8)) c0 c1 v2 i3 j5 gv6) := by
  have h := spec_l02Coproduct.b1_gen N K L1 (spec_l02Coproduct.k1g N L0 (spec_l02Coproduct.k0 N K)) c0 c1 v2 i3 j5 gv6
  rw [spec_l02Coproduct.k1_mix] at h
  exact h
theorem spec_l02Coproduct.a1_0_gen {ρ : Type} (N : Nat) (K : AV → Heap → Option ρ) (L0 : St → Option ρ) (kv : XE → St → Option ρ) (c0 : Nat → Int) (c1 : Nat → Int) (v2 : Nat → Int) (i3 : Int) (ov8 : Nat → Int) :
    (spec_l02Coproduct.k1g N L0 (mixK (spec_l02Coproduct.fin N K .ret) kv)) (.exit 2) (spec_l02Coproduct.sx1_0 c0 c1 v2 i3 ov8) = (spec_l02Coproduct.a1_0 N (fun d0 => K (.agg [⟨.u8, 64, d0⟩]) []) (fun i3 gv4 => L0 (spec_l02Coproduct.st0 c0 c1 v2 i3 gv4)) (fun ov9 => kv (.exit 0) (spec_l02Coproduct.sx0_0 ov9)) i3 ov8) := by kernel_rfl
theorem spec_l02Coproduct.a1_0_eq {ρ : Type} (N : Nat) (K : AV → Heap → Option ρ) (L0 : St → Option ρ) (c0 : Nat → Int) (c1 : Nat → Int) (v2 : Nat → Int) (i3 : Int) (ov8 : Nat → Int) :
    (spec_l02Coproduct.k1g N L0 (spec_l02Coproduct.k0 N K)) (.exit 2) (spec_l02Coproduct.sx1_0 c0 c1 v2 i3 ov8) = (spec_l02Coproduct.a1_0 N (fun d0 => K (.agg [⟨.u8, 64, d0⟩]) []) (fun i3 gv4 => L0 (spec_l02Coproduct.st0 c0 c1 v2 i3 gv4)) (fun ov9 => (spec_l02Coproduct.k0 N K) (.exit 0) (spec_l02Coproduct.sx0_0 ov9)) i3 ov8) := by
  have h := spec_l02Coproduct.a1_0_gen N K L0 (spec_l02Coproduct.k0 N K) c0 c1 v2 i3 ov8
  rw [spec_l02Coproduct.k0_mix] at h
  exact h
theorem spec_l02Coproduct.b0_gen {ρ : Type} (N : Nat) (K : AV → Heap → Option ρ) (L0 : St → Option ρ) (kv : XE → St → Option ρ) (c0 : Nat → Int) (c1 : Nat → Int) (v2 : Nat → Int) (i3 : Int) (gv4 : Nat → Int) :
    xcode (E20 N) ents spec_l02Coproduct.kp 0 N (cL (cK (cB (cA (cB (cB spec_l02Coproduct.bd)))))) 0 (spec_l02Coproduct.st0 c0 c1 v2 i3 gv4) (roundK spec_l02Coproduct.kp 0 0 L0 (mixK (spec_l02Coproduct.fin N K .ret) kv)) = (spec_l02Coproduct.b0 N (fun d0 => K (.agg [⟨.u8, 64, d0⟩]) []) (fun j5 gv6 => xloop (xcode (E20 N) ents spec_l02Coproduct.kp 0 N (cL (cK (cB (cK (cA (cB (cL (cK (cB (cA (cB (cB spec_l02Coproduct.bd)))))))))))) 2) spec_l02Coproduct.kp 0 2 N (spec_l02Coproduct.st1 c0 c1 v2 i3 j5 gv6) (spec_l02Coproduct.k1g N L0 (mixK (spec_l02Coproduct.fin N K .ret) kv))) (fun i3 gv4 => L0 (spec_l02Coproduct.st0 c0 c1 v2 i3 gv4)) (fun ov9 => kv (.exit 0) (spec_l02Coproduct.sx0_0 ov9)) c0 i3 gv4) := by kernel_rfl
theorem spec_l02Coproduct.b0_eq {ρ : Type} (N : Nat) (K : AV → Heap → Option ρ) (L0 : St → Option ρ) (c0 : Nat → Int) (c1 : Nat → Int) (v2 : Nat → Int) (i3 : Int) (gv4 : Nat → Int) :
    xcode (E20 N) ents spec_l02Coproduct.kp 0 N (cL (cK (cB (cA (cB (cB spec_l02Coproduct.bd)))))) 0 (spec_l02Coproduct.st0 c0 c1 v2 i3 gv4) (roundK spec_l02Coproduct.kp 0 0 L0 (spec_l02Coproduct.k0 N K)) = (spec_l02Coproduct.b0 N (fun d0 => K (.agg [⟨.u8, 64, d0⟩]) []) (fun j5 gv6 => xloop (xcode (E20 N) ents spec_l02Coproduct.kp 0 N (cL (cK (cB (cK (cA (cB (cL (cK (cB (cA (cB (cB spec_l02Coproduct.bd)))))))))))) 2) spec_l02Coproduct.kp 0 2 N (spec_l02Coproduct.st1 c0 c1 v2 i3 j5 gv6) (spec_l02Coproduct.k1g N L0 (spec_l02Coproduct.k0 N K))) (fun i3 gv4 => L0 (spec_l02Coproduct.st0 c0 c1 v2 i3 gv4)) (fun ov9 => (spec_l02Coproduct.k0 N K) (.exit 0) (spec_l02Coproduct.sx0_0 ov9)) c0 i3 gv4) := by
  have h := spec_l02Coproduct.b0_gen N K L0 (spec_l02Coproduct.k0 N K) c0 c1 v2 i3 gv4
  rw [spec_l02Coproduct.k0_mix] at h
  exact h
theorem spec_l02Coproduct.a0_0_eq {ρ : Type} (N : Nat) (K : AV → Heap → Option ρ) (ov9 : Nat → Int) :
    (spec_l02Coproduct.k0 N K) (.exit 0) (spec_l02Coproduct.sx0_0 ov9) = (spec_l02Coproduct.a0_0 N (fun d0 => K (.agg [⟨.u8, 64, d0⟩]) []) ov9) := by kernel_rfl
theorem spec_l02Coproduct.l1_eq {ρ : Type} (N : Nat) (K : AV → Heap → Option ρ) (L0 : St → Option ρ) (c0 : Nat → Int) (c1 : Nat → Int) (v2 : Nat → Int) (i3 : Int) :
    ∀ (m : Nat) (j5 : Int) (gv6 : Nat → Int), xloop (xcode (E20 N) ents spec_l02Coproduct.kp 0 N (cL (cK (cB (cK (cA (cB (cL (cK (cB (cA (cB (cB spec_l02Coproduct.bd)))))))))))) 2) spec_l02Coproduct.kp 0 2 m (spec_l02Coproduct.st1 c0 c1 v2 i3 j5 gv6) (spec_l02Coproduct.k1g N L0 (spec_l02Coproduct.k0 N K)) = (spec_l02Coproduct.l1 N (fun d0 => K (.agg [⟨.u8, 64, d0⟩]) []) c0 c1 v2 i3 (fun ov8 => (spec_l02Coproduct.k1g N L0 (spec_l02Coproduct.k0 N K)) (.exit 2) (spec_l02Coproduct.sx1_0 c0 c1 v2 i3 ov8)) m j5 gv6) := by
  intro m
  induction m with
  | zero => intros; rfl
  | succ m ih =>
    intro j5 gv6
    refine (spec_l02Coproduct.b1_eq N K L0 (fun s => xloop (xcode (E20 N) ents spec_l02Coproduct.kp 0 N (cL (cK (cB (cK (cA (cB (cL (cK (cB (cA (cB (cB spec_l02Coproduct.bd)))))))))))) 2) spec_l02Coproduct.kp 0 2 m s (spec_l02Coproduct.k1g N L0 (spec_l02Coproduct.k0 N K))) c0 c1 v2 i3 j5 gv6).trans ?_
    simp only [ih]
    kernel_rfl
theorem spec_l02Coproduct.l0_eq {ρ : Type} (N : Nat) (K : AV → Heap → Option ρ) (c0 : Nat → Int) (c1 : Nat → Int) (v2 : Nat → Int) :
    ∀ (m : Nat) (i3 : Int) (gv4 : Nat → Int), xloop (xcode (E20 N) ents spec_l02Coproduct.kp 0 N (cL (cK (cB (cA (cB (cB spec_l02Coproduct.bd)))))) 0) spec_l02Coproduct.kp 0 0 m (spec_l02Coproduct.st0 c0 c1 v2 i3 gv4) (spec_l02Coproduct.k0 N K) = (spec_l02Coproduct.l0 N (fun d0 => K (.agg [⟨.u8, 64, d0⟩]) []) c0 c1 v2 (fun ov9 => (spec_l02Coproduct.k0 N K) (.exit 0) (spec_l02Coproduct.sx0_0 ov9)) m i3 gv4) := by
  intro m
  induction m with
  | zero => intros; rfl
  | succ m ih =>
    intro i3 gv4
    refine (spec_l02Coproduct.b0_eq N K (fun s => xloop (xcode (E20 N) ents spec_l02Coproduct.kp 0 N (cL (cK (cB (cA (cB (cB spec_l02Coproduct.bd)))))) 0) spec_l02Coproduct.kp 0 0 m s (spec_l02Coproduct.k0 N K)) c0 c1 v2 i3 gv4).trans ?_
    simp only [ih, spec_l02Coproduct.l1_eq, spec_l02Coproduct.a1_0_eq]
    kernel_rfl
theorem spec_l02Coproduct.s_eq {ρ : Type} (N : Nat) (K : AV → Heap → Option ρ) (c0 : Nat → Int) (c1 : Nat → Int) (v2 : Nat → Int) :
    xbody (E20 N) ents spec_l02Coproduct.kp N Try.f67 spec_l02Coproduct.bd [.agg [⟨.i64, 2, c0⟩, ⟨.u8, 520, c1⟩], .agg [⟨.u8, 8, v2⟩]] [] K = (spec_l02Coproduct.s N (fun d0 => K (.agg [⟨.u8, 64, d0⟩]) []) (fun i3 gv4 => xloop (xcode (E20 N) ents spec_l02Coproduct.kp 0 N (cL (cK (cB (cA (cB (cB spec_l02Coproduct.bd)))))) 0) spec_l02Coproduct.kp 0 0 N (spec_l02Coproduct.st0 c0 c1 v2 i3 gv4) (spec_l02Coproduct.k0 N K))) := by kernel_rfl
theorem spec_l02Coproduct.eq {ρ : Type} (N : Nat) (K : AV → Heap → Option ρ) (c0 : Nat → Int) (c1 : Nat → Int) (v2 : Nat → Int) :
    xbody (E20 N) ents spec_l02Coproduct.kp N Try.f67 spec_l02Coproduct.bd [.agg [⟨.i64, 2, c0⟩, ⟨.u8, 520, c1⟩], .agg [⟨.u8, 8, v2⟩]] [] K = (spec_l02Coproduct N (fun d0 => K (.agg [⟨.u8, 64, d0⟩]) []) c0 c1 v2) := by
  refine (spec_l02Coproduct.s_eq N K c0 c1 v2).trans ?_
  simp only [spec_l02Coproduct.l0_eq, spec_l02Coproduct.a0_0_eq]
  kernel_rfl
def spec_l02Coproduct.en (N : Nat) (ρ : Type) : List AV → Heap → (AV → Heap → Option ρ) → Option ρ
  | [.agg [⟨.i64, 2, c0⟩, ⟨.u8, 520, c1⟩], .agg [⟨.u8, 8, v2⟩]], [], K => (spec_l02Coproduct N (fun d0 => K (.agg [⟨.u8, 64, d0⟩]) []) c0 c1 v2)
  | _, _, _ => none
theorem spec_l02Coproduct.en_ok (N : Nat) (hE : EnvOk (E20 N) ents) (ρ : Type) (args : List AV) (sh : Heap) (K : AV → Heap → Option ρ) (r : ρ) (h : spec_l02Coproduct.en N ρ args sh K = some r) : ∃ v sh', K v sh' = some r ∧ FnOk (E20 N).P 67 args sh v sh' := by
  unfold spec_l02Coproduct.en at h
  split at h
  · exact fn_ok hE (kp := spec_l02Coproduct.kp) (N := N) Try.func67 (c := spec_l02Coproduct.bd) (by kernel_rfl) ((spec_l02Coproduct.eq N _ _ _ _).trans h)
  · cases h
def E21 (N : Nat) : Env := (E20 N).add 67 (spec_l02Coproduct.en N)
theorem E21_ok (N : Nat) : EnvOk (E21 N) ents := Env.add_ok (E20_ok N) (spec_l02Coproduct.en_ok N (E20_ok N))
def spec_l02Outer.kp : Keeps := ⟨[(0, [0, 4, 5, 6, 7, 8], [], [])], [(0, [6, 7], [], [])], []⟩
def spec_l02Outer.bd : Code := bodyOf Try.f105
def spec_l02Outer.fin {ρ : Type} (N : Nat) (K : AV → Heap → Option ρ) : XE → St → Option ρ := finK (E21 N) spec_l02Outer.kp.fins Try.f105 [] K
def spec_l02Outer.k0 {ρ : Type} (N : Nat) (K : AV → Heap → Option ρ) : XE → St → Option ρ := (blockK spec_l02Outer.kp 0 0 (seqK (xcode (E21 N) ents spec_l02Outer.kp 0 N (cB (cB (cB spec_l02Outer.bd))) 0) (spec_l02Outer.fin N K)))
theorem spec_l02Outer.k0_mix {ρ : Type} (N : Nat) (K : AV → Heap → Option ρ) : mixK (spec_l02Outer.fin N K .ret) (spec_l02Outer.k0 N K) = (spec_l02Outer.k0 N K) := by
  funext e s; cases e <;> kernel_rfl
def spec_l02Outer.st0 (p0 : Int) (v1 : Nat → Int) (w2 : Nat → Int) (j3 : Int) (gv4 : Nat → Int) : St := ⟨sl 25 [(0, .int .i64 (p0)), (4, .sptr [(0, 8)]), (5, .sptr [(1, 8)]), (6, .sptr [(2, 64)]), (7, .sptr [(3, 64)]), (8, .int .i64 (j3))], [⟨true, .flat 8 (.ints .u8 v1)⟩, ⟨true, .flat 8 (.ints .u8 w2)⟩, ⟨true, .flat 64 (.ints .u8 (fun _ => 0))⟩, ⟨true, .flat 64 (.ints .u8 gv4)⟩]⟩
def spec_l02Outer.sx0_0 (ov6 : Nat → Int) : St := ⟨sl 25 [(6, .sptr [(0, 64)]), (7, .sptr [(1, 64)])], [⟨true, .flat 64 (.ints .u8 (fun _ => 0))⟩, ⟨true, .flat 64 (.ints .u8 ov6)⟩]⟩
theorem spec_l02Outer.b0_gen {ρ : Type} (N : Nat) (K : AV → Heap → Option ρ) (L0 : St → Option ρ) (kv : XE → St → Option ρ) (p0 : Int) (v1 : Nat → Int) (w2 : Nat → Int) (j3 : Int) (gv4 : Nat → Int) :
    xcode (E21 N) ents spec_l02Outer.kp 0 N (cL (cK (cB (cA (cB (cB spec_l02Outer.bd)))))) 0 (spec_l02Outer.st0 p0 v1 w2 j3 gv4) (roundK spec_l02Outer.kp 0 0 L0 (mixK (spec_l02Outer.fin N K .ret) kv)) = (spec_l02Outer.b0 N (fun d0 => K (.agg [⟨.u8, 64, d0⟩]) []) (fun j3 gv4 => L0 (spec_l02Outer.st0 p0 v1 w2 j3 gv4)) (fun ov6 => kv (.exit 0) (spec_l02Outer.sx0_0 ov6)) p0 v1 w2 j3 gv4) := by kernel_rfl
theorem spec_l02Outer.b0_eq {ρ : Type} (N : Nat) (K : AV → Heap → Option ρ) (L0 : St → Option ρ) (p0 : Int) (v1 : Nat → Int) (w2 : Nat → Int) (j3 : Int) (gv4 : Nat → Int) :
    xcode (E21 N) ents spec_l02Outer.kp 0 N (cL (cK (cB (cA (cB (cB spec_l02Outer.bd)))))) 0 (spec_l02Outer.st0 p0 v1 w2 j3 gv4) (roundK spec_l02Outer.kp 0 0 L0 (spec_l02Outer.k0 N K)) = (spec_l02Outer.b0 N (fun d0 => K (.agg [⟨.u8, 64, d0⟩]) []) (fun j3 gv4 => L0 (spec_l02Outer.st0 p0 v1 w2 j3 gv4)) (fun ov6 => (spec_l02Outer.k0 N K) (.exit 0) (spec_l02Outer.sx0_0 ov6)) p0 v1 w2 j3 gv4) := by
  have h := spec_l02Outer.b0_gen N K L0 (spec_l02Outer.k0 N K) p0 v1 w2 j3 gv4
  rw [spec_l02Outer.k0_mix] at h
  exact h
theorem spec_l02Outer.a0_0_eq {ρ : Type} (N : Nat) (K : AV → Heap → Option ρ) (ov6 : Nat → Int) :
    (spec_l02Outer.k0 N K) (.exit 0) (spec_l02Outer.sx0_0 ov6) = (spec_l02Outer.a0_0 N (fun d0 => K (.agg [⟨.u8, 64, d0⟩]) []) ov6) := by kernel_rfl
theorem spec_l02Outer.l0_eq {ρ : Type} (N : Nat) (K : AV → Heap → Option ρ) (p0 : Int) (v1 : Nat → Int) (w2 : Nat → Int) :
    ∀ (m : Nat) (j3 : Int) (gv4 : Nat → Int), xloop (xcode (E21 N) ents spec_l02Outer.kp 0 N (cL (cK (cB (cA (cB (cB spec_l02Outer.bd)))))) 0) spec_l02Outer.kp 0 0 m (spec_l02Outer.st0 p0 v1 w2 j3 gv4) (spec_l02Outer.k0 N K) = (spec_l02Outer.l0 N (fun d0 => K (.agg [⟨.u8, 64, d0⟩]) []) p0 v1 w2 (fun ov6 => (spec_l02Outer.k0 N K) (.exit 0) (spec_l02Outer.sx0_0 ov6)) m j3 gv4) := by
  intro m
  induction m with
  | zero => intros; rfl
  | succ m ih =>
    intro j3 gv4
    refine (spec_l02Outer.b0_eq N K (fun s => xloop (xcode (E21 N) ents spec_l02Outer.kp 0 N (cL (cK (cB (cA (cB (cB spec_l02Outer.bd)))))) 0) spec_l02Outer.kp 0 0 m s (spec_l02Outer.k0 N K)) p0 v1 w2 j3 gv4).trans ?_
    simp only [ih]
    kernel_rfl
theorem spec_l02Outer.s_eq {ρ : Type} (N : Nat) (K : AV → Heap → Option ρ) (p0 : Int) (v1 : Nat → Int) (w2 : Nat → Int) :
    xbody (E21 N) ents spec_l02Outer.kp N Try.f105 spec_l02Outer.bd [.int .i64 (p0), .agg [⟨.u8, 8, v1⟩], .agg [⟨.u8, 8, w2⟩]] [] K = (spec_l02Outer.s N (fun d0 => K (.agg [⟨.u8, 64, d0⟩]) []) (fun j3 gv4 => xloop (xcode (E21 N) ents spec_l02Outer.kp 0 N (cL (cK (cB (cA (cB (cB spec_l02Outer.bd)))))) 0) spec_l02Outer.kp 0 0 N (spec_l02Outer.st0 p0 v1 w2 j3 gv4) (spec_l02Outer.k0 N K))) := by kernel_rfl
theorem spec_l02Outer.eq {ρ : Type} (N : Nat) (K : AV → Heap → Option ρ) (p0 : Int) (v1 : Nat → Int) (w2 : Nat → Int) :
    xbody (E21 N) ents spec_l02Outer.kp N Try.f105 spec_l02Outer.bd [.int .i64 (p0), .agg [⟨.u8, 8, v1⟩], .agg [⟨.u8, 8, w2⟩]] [] K = (spec_l02Outer N (fun d0 => K (.agg [⟨.u8, 64, d0⟩]) []) p0 v1 w2) := by
  refine (spec_l02Outer.s_eq N K p0 v1 w2).trans ?_
  simp only [spec_l02Outer.l0_eq, spec_l02Outer.a0_0_eq]
  kernel_rfl
def spec_l02Outer.en (N : Nat) (ρ : Type) : List AV → Heap → (AV → Heap → Option ρ) → Option ρ
  | [.int .i64 (p0), .agg [⟨.u8, 8, v1⟩], .agg [⟨.u8, 8, w2⟩]], [], K => (spec_l02Outer N (fun d0 => K (.agg [⟨.u8, 64, d0⟩]) []) p0 v1 w2)
  | _, _, _ => none
theorem spec_l02Outer.en_ok (N : Nat) (hE : EnvOk (E21 N) ents) (ρ : Type) (args : List AV) (sh : Heap) (K : AV → Heap → Option ρ) (r : ρ) (h : spec_l02Outer.en N ρ args sh K = some r) : ∃ v sh', K v sh' = some r ∧ FnOk (E21 N).P 105 args sh v sh' := by
  unfold spec_l02Outer.en at h
  split at h
  · exact fn_ok hE (kp := spec_l02Outer.kp) (N := N) Try.func105 (c := spec_l02Outer.bd) (by kernel_rfl) ((spec_l02Outer.eq N _ _ _ _).trans h)
  · cases h
def E22 (N : Nat) : Env := (E21 N).add 105 (spec_l02Outer.en N)
end
end Go.Proofs.Ythecjjnieojjoaa.H
