import Derived.Test.YtmjpfchbkolcbaaHP0
import Derived.Test.YtmjpfchbkolcbaaChecked
import Derived.KernelRfl
namespace Go.Proofs.Ytmjpfchbkolcbaa.H
noncomputable section
set_option linter.unusedVariables false
set_option linter.unusedSimpArgs false
open Go Go.RowKit Go.Proofs.Ytmjpfchbkolcbaa.Hy
set_option maxRecDepth 100000
def lays : List Lay := [.other, .func, .int .i64, .int .i64, .bool, .int .u8, .int .u8, .mix [(0, 1, false), (1, 1, false), (2, 1, false), (3, 1, false)] [.int .i64, .int .i64, .bool, .int .u8], .mix [(0, 1, false), (1, 1, false), (2, 1, false), (3, 1, false)] [.int .i64, .int .i64, .bool, .int .u8], .str, .str, .str, .int .u64, .mix [(0, 1, false), (1, 1, false)] [.str, .int .u64], .mix [(0, 1, false), (1, 1, false)] [.str, .int .u64], .ptr, .ptr, .ptr, .other, .other, .other, .int .i32, .arr 8 5 1 .u8, .arr 8 22 8 .u8, .arr 8 23 64 .u8, .struct [(0, 1, false), (1, 1, false), (2, 8, true), (10, 512, true)] [(.i64, 2), (.u8, 520)], .struct [(0, 1, false), (1, 1, false), (2, 8, true), (10, 512, true)] [(.i64, 2), (.u8, 520)], .func, .arr 8 5 1 .u8, .arr 8 28 8 .u8, .arr 8 28 8 .u8, .arr 8 30 64 .u8, .arr 8 30 64 .u8, .struct [(0, 1, false), (1, 1, false), (2, 8, true), (10, 512, true)] [(.i64, 2), (.u8, 520)], .struct [(0, 1, false), (1, 1, false), (2, 8, true), (10, 512, true)] [(.i64, 2), (.u8, 520)], .func, .func, .slice 2 1 8, .other, .func, .func, .func, .other, .func, .other, .func, .func, .func, .func, .other, .func, .func, .func, .func, .other, .func, .func, .other, .func, .func, .struct [(0, 1, false), (1, 1, false), (2, 8, true), (10, 512, true)] [(.i64, 2), (.u8, 520)], .struct [(0, 1, false), (1, 1, false), (2, 8, true), (10, 512, true)] [(.i64, 2), (.u8, 520)], .other, .func, .func, .func, .func, .slice 28 8 8, .other, .func, .func, .func, .func, .func, .func, .func, .func, .other, .func, .func, .func, .func, .func, .func, .func, .func, .struct [(0, 1, false), (1, 1, false)] [(.i64, 2)], .struct [(0, 1, false), (1, 1, false)] [(.i64, 2)], .func, .func, .func, .func, .func, .func, .func, .func, .func, .func, .ptr, .func, .ptr, .func, .func, .func, .func, .func, .func, .func, .func, .ptr, .func, .func, .func, .func, .func, .func, .func, .func, .func, .func, .other, .func, .func, .ptr, .func, .slice 3 1 8, .func, .func, .func, .func, .ptr, .func, .func, .func, .func, .func, .slice 139 1 24, .mix [(0, 2, true), (2, 1, false), (3, 1, false), (4, 1, false)] [.run .i64 2, .int .i64, .nils, .nils], .mix [(0, 2, true), (2, 1, false), (3, 1, false), (4, 1, false)] [.run .i64 2, .int .i64, .nils, .nils], .slice 5 1 1, .func, .func, .func, .func, .func, .func, .func, .func, .func, .func, .func, .other, .other, .other, .other, .other, .func, .int .u32, .int .u8, .int .u8, .func, .ptr, .int .i32, .int .i32, .other, .other, .other]
def wrs : List (FuncId × List Bool) := [(46, [true]), (74, [true]), (98, [false, false, true, false, false, true, true]), (99, [false, false, true, true, true, true]), (112, [false, false, false, false, false, true, true])]
def ents : List FuncId := [13, 15, 16, 25, 27, 43, 44, 45, 46, 47, 48, 49, 50, 51, 52, 53, 54, 55, 56, 57, 60, 63, 66, 68, 74, 76, 77, 78, 79, 80, 81, 82, 83, 84, 85, 86, 87, 88, 89, 90, 91, 92, 93, 94, 95, 96, 97, 98, 99, 100, 101, 102, 103, 104, 105, 107, 108, 109, 110, 111, 112, 113, 114, 115, 116, 117, 118, 119, 120]
def E0 (N : Nat) : Env := env0 Go.Proofs.Try.prog lays wrs
theorem E0_ok (N : Nat) : EnvOk (E0 N) ents := env0_ok (by kernel_rfl) (by kernel_rfl) (by kernel_rfl)
def laws_toVector.kp : Keeps := ⟨[(0, [1, 2, 3, 4], [], [])], [(0, [2, 3], [], [])], []⟩
def laws_toVector.bd : Code := bodyOf Try.f25
def laws_toVector.fin {ρ : Type} (N : Nat) (K : AV → Heap → Option ρ) : XE → St → Option ρ := finK (E0 N) laws_toVector.kp.fins Try.f25 [] K
def laws_toVector.k0 {ρ : Type} (N : Nat) (K : AV → Heap → Option ρ) : XE → St → Option ρ := (blockK laws_toVector.kp 0 0 (seqK (xcode (E0 N) ents laws_toVector.kp 0 N (cB (cB (cB laws_toVector.bd))) 0) (laws_toVector.fin N K)))
theorem laws_toVector.k0_mix {ρ : Type} (N : Nat) (K : AV → Heap → Option ρ) : mixK (laws_toVector.fin N K .ret) (laws_toVector.k0 N K) = (laws_toVector.k0 N K) := by
  funext e s; cases e <;> kernel_rfl
def laws_toVector.st0 (av0 : Nat → Int) (i1 : Int) (gv2 : Nat → Int) : St := ⟨sl 15 [(1, .sptr [(0, 8)]), (2, .sptr [(1, 8)]), (3, .sptr [(2, 8)]), (4, .int .i64 (i1))], [⟨true, .flat 8 (.ints .u8 av0)⟩, ⟨true, .flat 8 (.ints .u8 (fun _ => 0))⟩, ⟨true, .flat 8 (.ints .u8 gv2)⟩]⟩
def laws_toVector.sx0_0 (ov3 : Nat → Int) : St := ⟨sl 15 [(2, .sptr [(0, 8)]), (3, .sptr [(1, 8)])], [⟨true, .flat 8 (.ints .u8 (fun _ => 0))⟩, ⟨true, .flat 8 (.ints .u8 ov3)⟩]⟩
theorem laws_toVector.b0_gen {ρ : Type} (N : Nat) (K : AV → Heap → Option ρ) (L0 : St → Option ρ) (kv : XE → St → Option ρ) (av0 : Nat → Int) (i1 : Int) (gv2 : Nat → Int) :
    xcode (E0 N) ents laws_toVector.kp 0 N (cL (cK (cB (cA (cB (cB laws_toVector.bd)))))) 0 (laws_toVector.st0 av0 i1 gv2) (roundK laws_toVector.kp 0 0 L0 (mixK (laws_toVector.fin N K .ret) kv)) = (laws_toVector.b0 N (fun d0 => K (.agg [⟨.u8, 8, d0⟩]) []) (fun i1 gv2 => L0 (laws_toVector.st0 av0 i1 gv2)) (fun ov3 => kv (.exit 0) (laws_toVector.sx0_0 ov3)) av0 i1 gv2) := by kernel_rfl
theorem laws_toVector.b0_eq {ρ : Type} (N : Nat) (K : AV → Heap → Option ρ) (L0 : St → Option ρ) (av0 : Nat → Int) (i1 : Int) (gv2 : Nat → Int) :
    xcode (E0 N) ents laws_toVector.kp 0 N (cL (cK (cB (cA (cB (cB laws_toVector.bd)))))) 0 (laws_toVector.st0 av0 i1 gv2) (roundK laws_toVector.kp 0 0 L0 (laws_toVector.k0 N K)) = (laws_toVector.b0 N (fun d0 => K (.agg [⟨.u8, 8, d0⟩]) []) (fun i1 gv2 => L0 (laws_toVector.st0 av0 i1 gv2)) (fun ov3 => (laws_toVector.k0 N K) (.exit 0) (laws_toVector.sx0_0 ov3)) av0 i1 gv2) := by
  have h := laws_toVector.b0_gen N K L0 (laws_toVector.k0 N K) av0 i1 gv2
  rw [laws_toVector.k0_mix] at h
  exact h
theorem laws_toVector.a0_0_eq {ρ : Type} (N : Nat) (K : AV → Heap → Option ρ) (ov3 : Nat → Int) :
    (laws_toVector.k0 N K) (.exit 0) (laws_toVector.sx0_0 ov3) = (laws_toVector.a0_0 N (fun d0 => K (.agg [⟨.u8, 8, d0⟩]) []) ov3) := by kernel_rfl
theorem laws_toVector.l0_eq {ρ : Type} (N : Nat) (K : AV → Heap → Option ρ) (av0 : Nat → Int) :
    ∀ (m : Nat) (i1 : Int) (gv2 : Nat → Int), xloop (xcode (E0 N) ents laws_toVector.kp 0 N (cL (cK (cB (cA (cB (cB laws_toVector.bd)))))) 0) laws_toVector.kp 0 0 m (laws_toVector.st0 av0 i1 gv2) (laws_toVector.k0 N K) = (laws_toVector.l0 N (fun d0 => K (.agg [⟨.u8, 8, d0⟩]) []) av0 (fun ov3 => (laws_toVector.k0 N K) (.exit 0) (laws_toVector.sx0_0 ov3)) m i1 gv2) := by
  intro m
  induction m with
  | zero => intros; rfl
  | succ m ih =>
    intro i1 gv2
    refine (laws_toVector.b0_eq N K (fun s => xloop (xcode (E0 N) ents laws_toVector.kp 0 N (cL (cK (cB (cA (cB (cB laws_toVector.bd)))))) 0) laws_toVector.kp 0 0 m s (laws_toVector.k0 N K)) av0 i1 gv2).trans ?_
    simp only [ih]
    kernel_rfl
theorem laws_toVector.s_eq {ρ : Type} (N : Nat) (K : AV → Heap → Option ρ) (av0 : Nat → Int) :
    xbody (E0 N) ents laws_toVector.kp N Try.f25 laws_toVector.bd [.agg [⟨.u8, 8, av0⟩]] [] K = (laws_toVector.s N (fun d0 => K (.agg [⟨.u8, 8, d0⟩]) []) (fun i1 gv2 => xloop (xcode (E0 N) ents laws_toVector.kp 0 N (cL (cK (cB (cA (cB (cB laws_toVector.bd)))))) 0) laws_toVector.kp 0 0 N (laws_toVector.st0 av0 i1 gv2) (laws_toVector.k0 N K))) := by kernel_rfl
theorem laws_toVector.eq {ρ : Type} (N : Nat) (K : AV → Heap → Option ρ) (av0 : Nat → Int) :
    xbody (E0 N) ents laws_toVector.kp N Try.f25 laws_toVector.bd [.agg [⟨.u8, 8, av0⟩]] [] K = (laws_toVector N (fun d0 => K (.agg [⟨.u8, 8, d0⟩]) []) av0) := by
  refine (laws_toVector.s_eq N K av0).trans ?_
  simp only [laws_toVector.l0_eq, laws_toVector.a0_0_eq]
  kernel_rfl
def laws_toVector.en (N : Nat) (ρ : Type) : List AV → Heap → (AV → Heap → Option ρ) → Option ρ
  | [.agg [⟨.u8, 8, av0⟩]], [], K => (laws_toVector N (fun d0 => K (.agg [⟨.u8, 8, d0⟩]) []) av0)
  | _, _, _ => none
theorem laws_toVector.en_ok (N : Nat) (hE : EnvOk (E0 N) ents) (ρ : Type) (args : List AV) (sh : Heap) (K : AV → Heap → Option ρ) (r : ρ) (h : laws_toVector.en N ρ args sh K = some r) : ∃ v sh', K v sh' = some r ∧ FnOk (E0 N).P 25 args sh v sh' := by
  unfold laws_toVector.en at h
  split at h
  · exact fn_ok hE (kp := laws_toVector.kp) (N := N) Try.func25 (c := laws_toVector.bd) (by kernel_rfl) ((laws_toVector.eq N _ _).trans h)
  · cases h
def E1 (N : Nat) : Env := (E0 N).add 25 (laws_toVector.en N)
theorem E1_ok (N : Nat) : EnvOk (E1 N) ents := Env.add_ok (E0_ok N) (laws_toVector.en_ok N (E0_ok N))
def laws_toLinear.kp : Keeps := ⟨[(0, [1, 2, 3, 4], [], [])], [(0, [2, 3], [], [])], []⟩
def laws_toLinear.bd : Code := bodyOf Try.f83
def laws_toLinear.fin {ρ : Type} (N : Nat) (K : AV → Heap → Option ρ) : XE → St → Option ρ := finK (E1 N) laws_toLinear.kp.fins Try.f83 [] K
def laws_toLinear.k0 {ρ : Type} (N : Nat) (K : AV → Heap → Option ρ) : XE → St → Option ρ := (blockK laws_toLinear.kp 0 0 (seqK (xcode (E1 N) ents laws_toLinear.kp 0 N (cB (cB (cB laws_toLinear.bd))) 0) (laws_toLinear.fin N K)))
theorem laws_toLinear.k0_mix {ρ : Type} (N : Nat) (K : AV → Heap → Option ρ) : mixK (laws_toLinear.fin N K .ret) (laws_toLinear.k0 N K) = (laws_toLinear.k0 N K) := by
  funext e s; cases e <;> kernel_rfl
def laws_toLinear.st0 (av0 : Nat → Int) (i1 : Int) (gv2 : Nat → Int) : St := ⟨sl 16 [(1, .sptr [(0, 64)]), (2, .sptr [(1, 64)]), (3, .sptr [(2, 64)]), (4, .int .i64 (i1))], [⟨true, .flat 64 (.ints .u8 av0)⟩, ⟨true, .flat 64 (.ints .u8 (fun _ => 0))⟩, ⟨true, .flat 64 (.ints .u8 gv2)⟩]⟩
def laws_toLinear.sx0_0 (ov4 : Nat → Int) : St := ⟨sl 16 [(2, .sptr [(0, 64)]), (3, .sptr [(1, 64)])], [⟨true, .flat 64 (.ints .u8 (fun _ => 0))⟩, ⟨true, .flat 64 (.ints .u8 ov4)⟩]⟩
theorem laws_toLinear.b0_gen {ρ : Type} (N : Nat) (K : AV → Heap → Option ρ) (L0 : St → Option ρ) (kv : XE → St → Option ρ) (av0 : Nat → Int) (i1 : Int) (gv2 : Nat → Int) :
    xcode (E1 N) ents laws_toLinear.kp 0 N (cL (cK (cB (cA (cB (cB laws_toLinear.bd)))))) 0 (laws_toLinear.st0 av0 i1 gv2) (roundK laws_toLinear.kp 0 0 L0 (mixK (laws_toLinear.fin N K .ret) kv)) = (laws_toLinear.b0 N (fun d0 => K (.agg [⟨.u8, 64, d0⟩]) []) (fun i1 gv2 => L0 (laws_toLinear.st0 av0 i1 gv2)) (fun ov4 => kv (.exit 0) (laws_toLinear.sx0_0 ov4)) av0 i1 gv2) := by kernel_rfl
theorem laws_toLinear.b0_eq {ρ : Type} (N : Nat) (K : AV → Heap → Option ρ) (L0 : St → Option ρ) (av0 : Nat → Int) (i1 : Int) (gv2 : Nat → Int) :
    xcode (E1 N) ents laws_toLinear.kp 0 N (cL (cK (cB (cA (cB (cB laws_toLinear.bd)))))) 0 (laws_toLinear.st0 av0 i1 gv2) (roundK laws_toLinear.kp 0 0 L0 (laws_toLinear.k0 N K)) = (laws_toLinear.b0 N (fun d0 => K (.agg [⟨.u8, 64, d0⟩]) []) (fun i1 gv2 => L0 (laws_toLinear.st0 av0 i1 gv2)) (fun ov4 => (laws_toLinear.k0 N K) (.exit 0) (laws_toLinear.sx0_0 ov4)) av0 i1 gv2) := by
  have h := laws_toLinear.b0_gen N K L0 (laws_toLinear.k0 N K) av0 i1 gv2
  rw [laws_toLinear.k0_mix] at h
  exact h
theorem laws_toLinear.a0_0_eq {ρ : Type} (N : Nat) (K : AV → Heap → Option ρ) (ov4 : Nat → Int) :
    (laws_toLinear.k0 N K) (.exit 0) (laws_toLinear.sx0_0 ov4) = (laws_toLinear.a0_0 N (fun d0 => K (.agg [⟨.u8, 64, d0⟩]) []) ov4) := by kernel_rfl
theorem laws_toLinear.l0_eq {ρ : Type} (N : Nat) (K : AV → Heap → Option ρ) (av0 : Nat → Int) :
    ∀ (m : Nat) (i1 : Int) (gv2 : Nat → Int), xloop (xcode (E1 N) ents laws_toLinear.kp 0 N (cL (cK (cB (cA (cB (cB laws_toLinear.bd)))))) 0) laws_toLinear.kp 0 0 m (laws_toLinear.st0 av0 i1 gv2) (laws_toLinear.k0 N K) = (laws_toLinear.l0 N (fun d0 => K (.agg [⟨.u8, 64, d0⟩]) []) av0 (fun ov4 => (laws_toLinear.k0 N K) (.exit 0) (laws_toLinear.sx0_0 ov4)) m i1 gv2) := by
  intro m
  induction m with
  | zero => intros; rfl
  | succ m ih =>
    intro i1 gv2
    refine (laws_toLinear.b0_eq N K (fun s => xloop (xcode (E1 N) ents laws_toLinear.kp 0 N (cL (cK (cB (cA (cB (cB laws_toLinear.bd)))))) 0) laws_toLinear.kp 0 0 m s (laws_toLinear.k0 N K)) av0 i1 gv2).trans ?_
    simp only [ih]
    kernel_rfl
theorem laws_toLinear.s_eq {ρ : Type} (N : Nat) (K : AV → Heap → Option ρ) (av0 : Nat → Int) :
    xbody (E1 N) ents laws_toLinear.kp N Try.f83 laws_toLinear.bd [.agg [⟨.u8, 64, av0⟩]] [] K = (laws_toLinear.s N (fun d0 => K (.agg [⟨.u8, 64, d0⟩]) []) (fun i1 gv2 => xloop (xcode (E1 N) ents laws_toLinear.kp 0 N (cL (cK (cB (cA (cB (cB laws_toLinear.bd)))))) 0) laws_toLinear.kp 0 0 N (laws_toLinear.st0 av0 i1 gv2) (laws_toLinear.k0 N K))) := by kernel_rfl
theorem laws_toLinear.eq {ρ : Type} (N : Nat) (K : AV → Heap → Option ρ) (av0 : Nat → Int) :
    xbody (E1 N) ents laws_toLinear.kp N Try.f83 laws_toLinear.bd [.agg [⟨.u8, 64, av0⟩]] [] K = (laws_toLinear N (fun d0 => K (.agg [⟨.u8, 64, d0⟩]) []) av0) := by
  refine (laws_toLinear.s_eq N K av0).trans ?_
  simp only [laws_toLinear.l0_eq, laws_toLinear.a0_0_eq]
  kernel_rfl
def laws_toLinear.en (N : Nat) (ρ : Type) : List AV → Heap → (AV → Heap → Option ρ) → Option ρ
  | [.agg [⟨.u8, 64, av0⟩]], [], K => (laws_toLinear N (fun d0 => K (.agg [⟨.u8, 64, d0⟩]) []) av0)
  | _, _, _ => none
theorem laws_toLinear.en_ok (N : Nat) (hE : EnvOk (E1 N) ents) (ρ : Type) (args : List AV) (sh : Heap) (K : AV → Heap → Option ρ) (r : ρ) (h : laws_toLinear.en N ρ args sh K = some r) : ∃ v sh', K v sh' = some r ∧ FnOk (E1 N).P 83 args sh v sh' := by
  unfold laws_toLinear.en at h
  split at h
  · exact fn_ok hE (kp := laws_toLinear.kp) (N := N) Try.func83 (c := laws_toLinear.bd) (by kernel_rfl) ((laws_toLinear.eq N _ _).trans h)
  · cases h
def E2 (N : Nat) : Env := (E1 N).add 83 (laws_toLinear.en N)
theorem E2_ok (N : Nat) : EnvOk (E2 N) ents := Env.add_ok (E1_ok N) (laws_toLinear.en_ok N (E1_ok N))
def laws_toTable.kp : Keeps := ⟨[(0, [1, 2, 3, 4], [], [])], [(0, [2, 3], [], [])], []⟩
def laws_toTable.bd : Code := bodyOf Try.f49
def laws_toTable.fin {ρ : Type} (N : Nat) (K : AV → Heap → Option ρ) : XE → St → Option ρ := finK (E2 N) laws_toTable.kp.fins Try.f49 [] K
def laws_toTable.k0 {ρ : Type} (N : Nat) (K : AV → Heap → Option ρ) : XE → St → Option ρ := (blockK laws_toTable.kp 0 0 (seqK (xcode (E2 N) ents laws_toTable.kp 0 N (cB (cB (cB laws_toTable.bd))) 0) (laws_toTable.fin N K)))
theorem laws_toTable.k0_mix {ρ : Type} (N : Nat) (K : AV → Heap → Option ρ) : mixK (laws_toTable.fin N K .ret) (laws_toTable.k0 N K) = (laws_toTable.k0 N K) := by
  funext e s; cases e <;> kernel_rfl
def laws_toTable.st0 (av0 : Nat → Int) (i1 : Int) (gv2 : Nat → Int) : St := ⟨sl 16 [(1, .sptr [(0, 512)]), (2, .sptr [(1, 512)]), (3, .sptr [(2, 512)]), (4, .int .i64 (i1))], [⟨true, .flat 512 (.ints .u8 av0)⟩, ⟨true, .flat 512 (.ints .u8 (fun _ => 0))⟩, ⟨true, .flat 512 (.ints .u8 gv2)⟩]⟩
def laws_toTable.sx0_0 (ov4 : Nat → Int) : St := ⟨sl 16 [(2, .sptr [(0, 512)]), (3, .sptr [(1, 512)])], [⟨true, .flat 512 (.ints .u8 (fun _ => 0))⟩, ⟨true, .flat 512 (.ints .u8 ov4)⟩]⟩
theorem laws_toTable.b0_gen {ρ : Type} (N : Nat) (K : AV → Heap → Option ρ) (L0 : St → Option ρ) (kv : XE → St → Option ρ) (av0 : Nat → Int) (i1 : Int) (gv2 : Nat → Int) :
    xcode (E2 N) ents laws_toTable.kp 0 N (cL (cK (cB (cA (cB (cB laws_toTable.bd)))))) 0 (laws_toTable.st0 av0 i1 gv2) (roundK laws_toTable.kp 0 0 L0 (mixK (laws_toTable.fin N K .ret) kv)) = (laws_toTable.b0 N (fun d0 => K (.agg [⟨.u8, 512, d0⟩]) []) (fun i1 gv2 => L0 (laws_toTable.st0 av0 i1 gv2)) (fun ov4 => kv (.exit 0) (laws_toTable.sx0_0 ov4)) av0 i1 gv2) := by kernel_rfl
theorem laws_toTable.b0_eq {ρ : Type} (N : Nat) (K : AV → Heap → Option ρ) (L0 : St → Option ρ) (av0 : Nat → Int) (i1 : Int) (gv2 : Nat → Int) :
    xcode (E2 N) ents laws_toTable.kp 0 N (cL (cK (cB (cA (cB (cB laws_toTable.bd)))))) 0 (laws_toTable.st0 av0 i1 gv2) (roundK laws_toTable.kp 0 0 L0 (laws_toTable.k0 N K)) = (laws_toTable.b0 N (fun d0 => K (.agg [⟨.u8, 512, d0⟩]) []) (fun i1 gv2 => L0 (laws_toTable.st0 av0 i1 gv2)) (fun ov4 => (laws_toTable.k0 N K) (.exit 0) (laws_toTable.sx0_0 ov4)) av0 i1 gv2) := by
  have h := laws_toTable.b0_gen N K L0 (laws_toTable.k0 N K) av0 i1 gv2
  rw [laws_toTable.k0_mix] at h
  exact h
theorem laws_toTable.a0_0_eq {ρ : Type} (N : Nat) (K : AV → Heap → Option ρ) (ov4 : Nat → Int) :
    (laws_toTable.k0 N K) (.exit 0) (laws_toTable.sx0_0 ov4) = (laws_toTable.a0_0 N (fun d0 => K (.agg [⟨.u8, 512, d0⟩]) []) ov4) := by kernel_rfl
theorem laws_toTable.l0_eq {ρ : Type} (N : Nat) (K : AV → Heap → Option ρ) (av0 : Nat → Int) :
    ∀ (m : Nat) (i1 : Int) (gv2 : Nat → Int), xloop (xcode (E2 N) ents laws_toTable.kp 0 N (cL (cK (cB (cA (cB (cB laws_toTable.bd)))))) 0) laws_toTable.kp 0 0 m (laws_toTable.st0 av0 i1 gv2) (laws_toTable.k0 N K) = (laws_toTable.l0 N (fun d0 => K (.agg [⟨.u8, 512, d0⟩]) []) av0 (fun ov4 => (laws_toTable.k0 N K) (.exit 0) (laws_toTable.sx0_0 ov4)) m i1 gv2) := by
  intro m
  induction m with
  | zero => intros; rfl
  | succ m ih =>
    intro i1 gv2
    refine (laws_toTable.b0_eq N K (fun s => xloop (xcode (E2 N) ents laws_toTable.kp 0 N (cL (cK (cB (cA (cB (cB laws_toTable.bd)))))) 0) laws_toTable.kp 0 0 m s (laws_toTable.k0 N K)) av0 i1 gv2).trans ?_
    simp only [ih]
    kernel_rfl
theorem laws_toTable.s_eq {ρ : Type} (N : Nat) (K : AV → Heap → Option ρ) (av0 : Nat → Int) :
    xbody (E2 N) ents laws_toTable.kp N Try.f49 laws_toTable.bd [.agg [⟨.u8, 512, av0⟩]] [] K = (laws_toTable.s N (fun d0 => K (.agg [⟨.u8, 512, d0⟩]) []) (fun i1 gv2 => xloop (xcode (E2 N) ents laws_toTable.kp 0 N (cL (cK (cB (cA (cB (cB laws_toTable.bd)))))) 0) laws_toTable.kp 0 0 N (laws_toTable.st0 av0 i1 gv2) (laws_toTable.k0 N K))) := by kernel_rfl
theorem laws_toTable.eq {ρ : Type} (N : Nat) (K : AV → Heap → Option ρ) (av0 : Nat → Int) :
    xbody (E2 N) ents laws_toTable.kp N Try.f49 laws_toTable.bd [.agg [⟨.u8, 512, av0⟩]] [] K = (laws_toTable N (fun d0 => K (.agg [⟨.u8, 512, d0⟩]) []) av0) := by
  refine (laws_toTable.s_eq N K av0).trans ?_
  simp only [laws_toTable.l0_eq, laws_toTable.a0_0_eq]
  kernel_rfl
def laws_toTable.en (N : Nat) (ρ : Type) : List AV → Heap → (AV → Heap → Option ρ) → Option ρ
  | [.agg [⟨.u8, 512, av0⟩]], [], K => (laws_toTable N (fun d0 => K (.agg [⟨.u8, 512, d0⟩]) []) av0)
  | _, _, _ => none
theorem laws_toTable.en_ok (N : Nat) (hE : EnvOk (E2 N) ents) (ρ : Type) (args : List AV) (sh : Heap) (K : AV → Heap → Option ρ) (r : ρ) (h : laws_toTable.en N ρ args sh K = some r) : ∃ v sh', K v sh' = some r ∧ FnOk (E2 N).P 49 args sh v sh' := by
  unfold laws_toTable.en at h
  split at h
  · exact fn_ok hE (kp := laws_toTable.kp) (N := N) Try.func49 (c := laws_toTable.bd) (by kernel_rfl) ((laws_toTable.eq N _ _).trans h)
  · cases h
def E3 (N : Nat) : Env := (E2 N).add 49 (laws_toTable.en N)
theorem E3_ok (N : Nat) : EnvOk (E3 N) ents := Env.add_ok (E2_ok N) (laws_toTable.en_ok N (E2_ok N))
def laws_toAlgebra.kp : Keeps := ⟨[], [], []⟩
def laws_toAlgebra.bd : Code := bodyOf Try.f15
def laws_toAlgebra.fin {ρ : Type} (N : Nat) (K : AV → Heap → Option ρ) : XE → St → Option ρ := finK (E3 N) laws_toAlgebra.kp.fins Try.f15 [] K
theorem laws_toAlgebra.eq {ρ : Type} (N : Nat) (K : AV → Heap → Option ρ) (av0 : Nat → Int) (av1 : Nat → Int) :
    xbody (E3 N) ents laws_toAlgebra.kp N Try.f15 laws_toAlgebra.bd [.agg [⟨.i64, 2, av0⟩, ⟨.u8, 520, av1⟩]] [] K = (laws_toAlgebra N (fun d0 d1 => K (.agg [⟨.i64, 2, d0⟩, ⟨.u8, 520, d1⟩]) []) av0 av1) := by kernel_rfl
def laws_toAlgebra.en (N : Nat) (ρ : Type) : List AV → Heap → (AV → Heap → Option ρ) → Option ρ
  | [.agg [⟨.i64, 2, av0⟩, ⟨.u8, 520, av1⟩]], [], K => (laws_toAlgebra N (fun d0 d1 => K (.agg [⟨.i64, 2, d0⟩, ⟨.u8, 520, d1⟩]) []) av0 av1)
  | _, _, _ => none
theorem laws_toAlgebra.en_ok (N : Nat) (hE : EnvOk (E3 N) ents) (ρ : Type) (args : List AV) (sh : Heap) (K : AV → Heap → Option ρ) (r : ρ) (h : laws_toAlgebra.en N ρ args sh K = some r) : ∃ v sh', K v sh' = some r ∧ FnOk (E3 N).P 15 args sh v sh' := by
  unfold laws_toAlgebra.en at h
  split at h
  · exact fn_ok hE (kp := laws_toAlgebra.kp) (N := N) Try.func15 (c := laws_toAlgebra.bd) (by kernel_rfl) ((laws_toAlgebra.eq N _ _ _).trans h)
  · cases h
def E4 (N : Nat) : Env := (E3 N).add 15 (laws_toAlgebra.en N)
theorem E4_ok (N : Nat) : EnvOk (E4 N) ents := Env.add_ok (E3_ok N) (laws_toAlgebra.en_ok N (E3_ok N))
def spec_l01In.kp : Keeps := ⟨[], [], []⟩
def spec_l01In.bd : Code := bodyOf Try.f66
def spec_l01In.fin {ρ : Type} (N : Nat) (K : AV → Heap → Option ρ) : XE → St → Option ρ := finK (E4 N) spec_l01In.kp.fins Try.f66 [] K
theorem spec_l01In.eq {ρ : Type} (N : Nat) (K : AV → Heap → Option ρ) (nv0 : Int) (low1 : Int) (high2 : Int) :
    xbody (E4 N) ents spec_l01In.kp N Try.f66 spec_l01In.bd [.int .i64 (nv0), .int .i64 (low1), .int .i64 (high2)] [] K = (spec_l01In N (fun d0 => K (.bool (d0)) []) nv0 low1 high2) := by kernel_rfl
def spec_l01In.en (N : Nat) (ρ : Type) : List AV → Heap → (AV → Heap → Option ρ) → Option ρ
  | [.int .i64 (nv0), .int .i64 (low1), .int .i64 (high2)], [], K => (spec_l01In N (fun d0 => K (.bool (d0)) []) nv0 low1 high2)
  | _, _, _ => none
theorem spec_l01In.en_ok (N : Nat) (hE : EnvOk (E4 N) ents) (ρ : Type) (args : List AV) (sh : Heap) (K : AV → Heap → Option ρ) (r : ρ) (h : spec_l01In.en N ρ args sh K = some r) : ∃ v sh', K v sh' = some r ∧ FnOk (E4 N).P 66 args sh v sh' := by
  unfold spec_l01In.en at h
  split at h
  · exact fn_ok hE (kp := spec_l01In.kp) (N := N) Try.func66 (c := spec_l01In.bd) (by kernel_rfl) ((spec_l01In.eq N _ _ _ _).trans h)
  · cases h
def E5 (N : Nat) : Env := (E4 N).add 66 (spec_l01In.en N)
theorem E5_ok (N : Nat) : EnvOk (E5 N) ents := Env.add_ok (E4_ok N) (spec_l01In.en_ok N (E4_ok N))
def spec_l01Prime.kp : Keeps := ⟨[(0, [0, 3], [], [])], [(0, [0], [], [])], []⟩
def spec_l01Prime.bd : Code := bodyOf Try.f103
def spec_l01Prime.fin {ρ : Type} (N : Nat) (K : AV → Heap → Option ρ) : XE → St → Option ρ := finK (E5 N) spec_l01Prime.kp.fins Try.f103 [] K
def spec_l01Prime.k0 {ρ : Type} (N : Nat) (K : AV → Heap → Option ρ) : XE → St → Option ρ := (blockK spec_l01Prime.kp 0 0 (seqK (xcode (E5 N) ents spec_l01Prime.kp 0 N (cB (cB spec_l01Prime.bd)) 0) (spec_l01Prime.fin N K)))
theorem spec_l01Prime.k0_mix {ρ : Type} (N : Nat) (K : AV → Heap → Option ρ) : mixK (spec_l01Prime.fin N K .ret) (spec_l01Prime.k0 N K) = (spec_l01Prime.k0 N K) := by
  funext e s; cases e <;> kernel_rfl
def spec_l01Prime.st0 (p0 : Int) (k1 : Int) : St := ⟨sl 19 [(0, .int .i64 (p0)), (3, .int .i64 (k1))], []⟩
def spec_l01Prime.sx0_0 (p0 : Int) : St := ⟨sl 19 [(0, .int .i64 (p0))], []⟩
theorem spec_l01Prime.b0_gen {ρ : Type} (N : Nat) (K : AV → Heap → Option ρ) (L0 : St → Option ρ) (kv : XE → St → Option ρ) (p0 : Int) (k1 : Int) :
    xcode (E5 N) ents spec_l01Prime.kp 0 N (cL (cK (cB (cA (cB spec_l01Prime.bd))))) 0 (spec_l01Prime.st0 p0 k1) (roundK spec_l01Prime.kp 0 0 L0 (mixK (spec_l01Prime.fin N K .ret) kv)) = (spec_l01Prime.b0 N (fun d0 => K (.bool (d0)) []) (fun k1 => L0 (spec_l01Prime.st0 p0 k1)) (kv (.exit 0) (spec_l01Prime.sx0_0 p0)) p0 k1) := by kernel_rfl
theorem spec_l01Prime.b0_eq {ρ : Type} (N : Nat) (K : AV → Heap → Option ρ) (L0 : St → Option ρ) (p0 : Int) (k1 : Int) :
    xcode (E5 N) ents spec_l01Prime.kp 0 N (cL (cK (cB (cA (cB spec_l01Prime.bd))))) 0 (spec_l01Prime.st0 p0 k1) (roundK spec_l01Prime.kp 0 0 L0 (spec_l01Prime.k0 N K)) = (spec_l01Prime.b0 N (fun d0 => K (.bool (d0)) []) (fun k1 => L0 (spec_l01Prime.st0 p0 k1)) ((spec_l01Prime.k0 N K) (.exit 0) (spec_l01Prime.sx0_0 p0)) p0 k1) := by
  have h := spec_l01Prime.b0_gen N K L0 (spec_l01Prime.k0 N K) p0 k1
  rw [spec_l01Prime.k0_mix] at h
  exact h
theorem spec_l01Prime.a0_0_eq {ρ : Type} (N : Nat) (K : AV → Heap → Option ρ) (p0 : Int) :
    (spec_l01Prime.k0 N K) (.exit 0) (spec_l01Prime.sx0_0 p0) = (spec_l01Prime.a0_0 N (fun d0 => K (.bool (d0)) []) p0) := by kernel_rfl
theorem spec_l01Prime.l0_eq {ρ : Type} (N : Nat) (K : AV → Heap → Option ρ) (p0 : Int) :
    ∀ (m : Nat) (k1 : Int), xloop (xcode (E5 N) ents spec_l01Prime.kp 0 N (cL (cK (cB (cA (cB spec_l01Prime.bd))))) 0) spec_l01Prime.kp 0 0 m (spec_l01Prime.st0 p0 k1) (spec_l01Prime.k0 N K) = (spec_l01Prime.l0 N (fun d0 => K (.bool (d0)) []) p0 ((spec_l01Prime.k0 N K) (.exit 0) (spec_l01Prime.sx0_0 p0)) m k1) := by
  intro m
  induction m with
  | zero => intros; rfl
  | succ m ih =>
    intro k1
    refine (spec_l01Prime.b0_eq N K (fun s => xloop (xcode (E5 N) ents spec_l01Prime.kp 0 N (cL (cK (cB (cA (cB spec_l01Prime.bd))))) 0) spec_l01Prime.kp 0 0 m s (spec_l01Prime.k0 N K)) p0 k1).trans ?_
    simp only [ih]
    kernel_rfl
theorem spec_l01Prime.s_eq {ρ : Type} (N : Nat) (K : AV → Heap → Option ρ) (p0 : Int) :
    xbody (E5 N) ents spec_l01Prime.kp N Try.f103 spec_l01Prime.bd [.int .i64 (p0)] [] K = (spec_l01Prime.s N (fun d0 => K (.bool (d0)) []) (fun k1 => xloop (xcode (E5 N) ents spec_l01Prime.kp 0 N (cL (cK (cB (cA (cB spec_l01Prime.bd))))) 0) spec_l01Prime.kp 0 0 N (spec_l01Prime.st0 p0 k1) (spec_l01Prime.k0 N K))) := by kernel_rfl
theorem spec_l01Prime.eq {ρ : Type} (N : Nat) (K : AV → Heap → Option ρ) (p0 : Int) :
    xbody (E5 N) ents spec_l01Prime.kp N Try.f103 spec_l01Prime.bd [.int .i64 (p0)] [] K = (spec_l01Prime N (fun d0 => K (.bool (d0)) []) p0) := by
  refine (spec_l01Prime.s_eq N K p0).trans ?_
  simp only [spec_l01Prime.l0_eq, spec_l01Prime.a0_0_eq]
  kernel_rfl
def spec_l01Prime.en (N : Nat) (ρ : Type) : List AV → Heap → (AV → Heap → Option ρ) → Option ρ
  | [.int .i64 (p0)], [], K => (spec_l01Prime N (fun d0 => K (.bool (d0)) []) p0)
  | _, _, _ => none
theorem spec_l01Prime.en_ok (N : Nat) (hE : EnvOk (E5 N) ents) (ρ : Type) (args : List AV) (sh : Heap) (K : AV → Heap → Option ρ) (r : ρ) (h : spec_l01Prime.en N ρ args sh K = some r) : ∃ v sh', K v sh' = some r ∧ FnOk (E5 N).P 103 args sh v sh' := by
  unfold spec_l01Prime.en at h
  split at h
  · exact fn_ok hE (kp := spec_l01Prime.kp) (N := N) Try.func103 (c := spec_l01Prime.bd) (by kernel_rfl) ((spec_l01Prime.eq N _ _).trans h)
  · cases h
def E6 (N : Nat) : Env := (E5 N).add 103 (spec_l01Prime.en N)
theorem E6_ok (N : Nat) : EnvOk (E6 N) ents := Env.add_ok (E5_ok N) (spec_l01Prime.en_ok N (E5_ok N))
def spec_l01Sizes.kp : Keeps := ⟨[], [], []⟩
def spec_l01Sizes.bd : Code := bodyOf Try.f86
def spec_l01Sizes.fin {ρ : Type} (N : Nat) (K : AV → Heap → Option ρ) : XE → St → Option ρ := finK (E6 N) spec_l01Sizes.kp.fins Try.f86 [] K
theorem spec_l01Sizes.eq {ρ : Type} (N : Nat) (K : AV → Heap → Option ρ) (p0 : Int) (nv1 : Int) :
    xbody (E6 N) ents spec_l01Sizes.kp N Try.f86 spec_l01Sizes.bd [.int .i64 (p0), .int .i64 (nv1)] [] K = (spec_l01Sizes N (fun d0 => K (.bool (d0)) []) p0 nv1) := by kernel_rfl
def spec_l01Sizes.en (N : Nat) (ρ : Type) : List AV → Heap → (AV → Heap → Option ρ) → Option ρ
  | [.int .i64 (p0), .int .i64 (nv1)], [], K => (spec_l01Sizes N (fun d0 => K (.bool (d0)) []) p0 nv1)
  | _, _, _ => none
theorem spec_l01Sizes.en_ok (N : Nat) (hE : EnvOk (E6 N) ents) (ρ : Type) (args : List AV) (sh : Heap) (K : AV → Heap → Option ρ) (r : ρ) (h : spec_l01Sizes.en N ρ args sh K = some r) : ∃ v sh', K v sh' = some r ∧ FnOk (E6 N).P 86 args sh v sh' := by
  unfold spec_l01Sizes.en at h
  split at h
  · exact fn_ok hE (kp := spec_l01Sizes.kp) (N := N) Try.func86 (c := spec_l01Sizes.bd) (by kernel_rfl) ((spec_l01Sizes.eq N _ _ _).trans h)
  · cases h
def E7 (N : Nat) : Env := (E6 N).add 86 (spec_l01Sizes.en N)
theorem E7_ok (N : Nat) : EnvOk (E7 N) ents := Env.add_ok (E6_ok N) (spec_l01Sizes.en_ok N (E6_ok N))
def spec_l01Vector.kp : Keeps := ⟨[(0, [0, 1, 5, 7], [], [])], [(0, [], [], [])], []⟩
def spec_l01Vector.bd : Code := bodyOf Try.f87
def spec_l01Vector.fin {ρ : Type} (N : Nat) (K : AV → Heap → Option ρ) : XE → St → Option ρ := finK (E7 N) spec_l01Vector.kp.fins Try.f87 [] K
def spec_l01Vector.k0 {ρ : Type} (N : Nat) (K : AV → Heap → Option ρ) : XE → St → Option ρ := (blockK spec_l01Vector.kp 0 0 (seqK (xcode (E7 N) ents spec_l01Vector.kp 0 N (cB (cB spec_l01Vector.bd)) 0) (spec_l01Vector.fin N K)))
theorem spec_l01Vector.k0_mix {ρ : Type} (N : Nat) (K : AV → Heap → Option ρ) : mixK (spec_l01Vector.fin N K .ret) (spec_l01Vector.k0 N K) = (spec_l01Vector.k0 N K) := by
  funext e s; cases e <;> kernel_rfl
def spec_l01Vector.st0 (p0 : Int) (nv1 : Int) (v2 : Nat → Int) (i3 : Int) : St := ⟨sl 29 [(0, .int .i64 (p0)), (1, .int .i64 (nv1)), (5, .sptr [(0, 8)]), (7, .int .i64 (i3))], [⟨true, .flat 8 (.ints .u8 v2)⟩]⟩
def spec_l01Vector.sx0_0 : St := ⟨sl 29 [], []⟩
theorem spec_l01Vector.b0_gen {ρ : Type} (N : Nat) (K : AV → Heap → Option ρ) (L0 : St → Option ρ) (kv : XE → St → Option ρ) (p0 : Int) (nv1 : Int) (v2 : Nat → Int) (i3 : Int) :
    xcode (E7 N) ents spec_l01Vector.kp 0 N (cL (cK (cB (cA (cB spec_l01Vector.bd))))) 0 (spec_l01Vector.st0 p0 nv1 v2 i3) (roundK spec_l01Vector.kp 0 0 L0 (mixK (spec_l01Vector.fin N K .ret) kv)) = (spec_l01Vector.b0 N (fun d0 => K (.bool (d0)) []) (fun i3 => L0 (spec_l01Vector.st0 p0 nv1 v2 i3)) (kv (.exit 0) (spec_l01Vector.sx0_0)) p0 nv1 v2 i3) := by kernel_rfl
theorem spec_l01Vector.b0_eq {ρ : Type} (N : Nat) (K : AV → Heap → Option ρ) (L0 : St → Option ρ) (p0 : Int) (nv1 : Int) (v2 : Nat → Int) (i3 : Int) :
    xcode (E7 N) ents spec_l01Vector.kp 0 N (cL (cK (cB (cA (cB spec_l01Vector.bd))))) 0 (spec_l01Vector.st0 p0 nv1 v2 i3) (roundK spec_l01Vector.kp 0 0 L0 (spec_l01Vector.k0 N K)) = (spec_l01Vector.b0 N (fun d0 => K (.bool (d0)) []) (fun i3 => L0 (spec_l01Vector.st0 p0 nv1 v2 i3)) ((spec_l01Vector.k0 N K) (.exit 0) (spec_l01Vector.sx0_0)) p0 nv1 v2 i3) := by
  have h := spec_l01Vector.b0_gen N K L0 (spec_l01Vector.k0 N K) p0 nv1 v2 i3
  rw [spec_l01Vector.k0_mix] at h
  exact h
theorem spec_l01Vector.a0_0_eq {ρ : Type} (N : Nat) (K : AV → Heap → Option ρ) :
    (spec_l01Vector.k0 N K) (.exit 0) (spec_l01Vector.sx0_0) = (spec_l01Vector.a0_0 N (fun d0 => K (.bool (d0)) [])) := by kernel_rfl
theorem spec_l01Vector.l0_eq {ρ : Type} (N : Nat) (K : AV → Heap → Option ρ) (p0 : Int) (nv1 : Int) (v2 : Nat → Int) :
    ∀ (m : Nat) (i3 : Int), xloop (xcode (E7 N) ents spec_l01Vector.kp 0 N (cL (cK (cB (cA (cB spec_l01Vector.bd))))) 0) spec_l01Vector.kp 0 0 m (spec_l01Vector.st0 p0 nv1 v2 i3) (spec_l01Vector.k0 N K) = (spec_l01Vector.l0 N (fun d0 => K (.bool (d0)) []) p0 nv1 v2 ((spec_l01Vector.k0 N K) (.exit 0) (spec_l01Vector.sx0_0)) m i3) := by
  intro m
  induction m with
  | zero => intros; rfl
  | succ m ih =>
    intro i3
    refine (spec_l01Vector.b0_eq N K (fun s => xloop (xcode (E7 N) ents spec_l01Vector.kp 0 N (cL (cK (cB (cA (cB spec_l01Vector.bd))))) 0) spec_l01Vector.kp 0 0 m s (spec_l01Vector.k0 N K)) p0 nv1 v2 i3).trans ?_
    simp only [ih]
    kernel_rfl
theorem spec_l01Vector.s_eq {ρ : Type} (N : Nat) (K : AV → Heap → Option ρ) (p0 : Int) (nv1 : Int) (v2 : Nat → Int) :
    xbody (E7 N) ents spec_l01Vector.kp N Try.f87 spec_l01Vector.bd [.int .i64 (p0), .int .i64 (nv1), .agg [⟨.u8, 8, v2⟩]] [] K = (spec_l01Vector.s N (fun d0 => K (.bool (d0)) []) (fun i3 => xloop (xcode (E7 N) ents spec_l01Vector.kp 0 N (cL (cK (cB (cA (cB spec_l01Vector.bd))))) 0) spec_l01Vector.kp 0 0 N (spec_l01Vector.st0 p0 nv1 v2 i3) (spec_l01Vector.k0 N K))) := by kernel_rfl
theorem spec_l01Vector.eq {ρ : Type} (N : Nat) (K : AV → Heap → Option ρ) (p0 : Int) (nv1 : Int) (v2 : Nat → Int) :
    xbody (E7 N) ents spec_l01Vector.kp N Try.f87 spec_l01Vector.bd [.int .i64 (p0), .int .i64 (nv1), .agg [⟨.u8, 8, v2⟩]] [] K = (spec_l01Vector N (fun d0 => K (.bool (d0)) []) p0 nv1 v2) := by
  refine (spec_l01Vector.s_eq N K p0 nv1 v2).trans ?_
  simp only [spec_l01Vector.l0_eq, spec_l01Vector.a0_0_eq]
  kernel_rfl
def spec_l01Vector.en (N : Nat) (ρ : Type) : List AV → Heap → (AV → Heap → Option ρ) → Option ρ
  | [.int .i64 (p0), .int .i64 (nv1), .agg [⟨.u8, 8, v2⟩]], [], K => (spec_l01Vector N (fun d0 => K (.bool (d0)) []) p0 nv1 v2)
  | _, _, _ => none
theorem spec_l01Vector.en_ok (N : Nat) (hE : EnvOk (E7 N) ents) (ρ : Type) (args : List AV) (sh : Heap) (K : AV → Heap → Option ρ) (r : ρ) (h : spec_l01Vector.en N ρ args sh K = some r) : ∃ v sh', K v sh' = some r ∧ FnOk (E7 N).P 87 args sh v sh' := by
  unfold spec_l01Vector.en at h
  split at h
  · exact fn_ok hE (kp := spec_l01Vector.kp) (N := N) Try.func87 (c := spec_l01Vector.bd) (by kernel_rfl) ((spec_l01Vector.eq N _ _ _ _).trans h)
  · cases h
def E8 (N : Nat) : Env := (E7 N).add 87 (spec_l01Vector.en N)
theorem E8_ok (N : Nat) : EnvOk (E8 N) ents := Env.add_ok (E7_ok N) (spec_l01Vector.en_ok N (E7_ok N))
def spec_l01Linear.kp : Keeps := ⟨[(0, [0, 1, 5, 7], [], [])], [(0, [], [], [])], []⟩
def spec_l01Linear.bd : Code := bodyOf Try.f104
def spec_l01Linear.fin {ρ : Type} (N : Nat) (K : AV → Heap → Option ρ) : XE → St → Option ρ := finK (E8 N) spec_l01Linear.kp.fins Try.f104 [] K
def spec_l01Linear.k0 {ρ : Type} (N : Nat) (K : AV → Heap → Option ρ) : XE → St → Option ρ := (blockK spec_l01Linear.kp 0 0 (seqK (xcode (E8 N) ents spec_l01Linear.kp 0 N (cB (cB spec_l01Linear.bd)) 0) (spec_l01Linear.fin N K)))
theorem spec_l01Linear.k0_mix {ρ : Type} (N : Nat) (K : AV → Heap → Option ρ) : mixK (spec_l01Linear.fin N K .ret) (spec_l01Linear.k0 N K) = (spec_l01Linear.k0 N K) := by
  funext e s; cases e <;> kernel_rfl
def spec_l01Linear.st0 (p0 : Int) (nv1 : Int) (f2 : Nat → Int) (i3 : Int) : St := ⟨sl 31 [(0, .int .i64 (p0)), (1, .int .i64 (nv1)), (5, .sptr [(0, 64)]), (7, .int .i64 (i3))], [⟨true, .flat 64 (.ints .u8 f2)⟩]⟩
def spec_l01Linear.sx0_0 : St := ⟨sl 31 [], []⟩
theorem spec_l01Linear.b0_gen {ρ : Type} (N : Nat) (K : AV → Heap → Option ρ) (L0 : St → Option ρ) (kv : XE → St → Option ρ) (p0 : Int) (nv1 : Int) (f2 : Nat → Int) (i3 : Int) :
    xcode (E8 N) ents spec_l01Linear.kp 0 N (cL (cK (cB (cA (cB spec_l01Linear.bd))))) 0 (spec_l01Linear.st0 p0 nv1 f2 i3) (roundK spec_l01Linear.kp 0 0 L0 (mixK (spec_l01Linear.fin N K .ret) kv)) = (spec_l01Linear.b0 N (fun d0 => K (.bool (d0)) []) (fun i3 => L0 (spec_l01Linear.st0 p0 nv1 f2 i3)) (kv (.exit 0) (spec_l01Linear.sx0_0)) p0 nv1 f2 i3) := by kernel_rfl
theorem spec_l01Linear.b0_eq {ρ : Type} (N : Nat) (K : AV → Heap → Option ρ) (L0 : St → Option ρ) (p0 : Int) (nv1 : Int) (f2 : Nat → Int) (i3 : Int) :
    xcode (E8 N) ents spec_l01Linear.kp 0 N (cL (cK (cB (cA (cB spec_l01Linear.bd))))) 0 (spec_l01Linear.st0 p0 nv1 f2 i3) (roundK spec_l01Linear.kp 0 0 L0 (spec_l01Linear.k0 N K)) = (spec_l01Linear.b0 N (fun d0 => K (.bool (d0)) []) (fun i3 => L0 (spec_l01Linear.st0 p0 nv1 f2 i3)) ((spec_l01Linear.k0 N K) (.exit 0) (spec_l01Linear.sx0_0)) p0 nv1 f2 i3) := by
  have h := spec_l01Linear.b0_gen N K L0 (spec_l01Linear.k0 N K) p0 nv1 f2 i3
  rw [spec_l01Linear.k0_mix] at h
  exact h
theorem spec_l01Linear.a0_0_eq {ρ : Type} (N : Nat) (K : AV → Heap → Option ρ) :
    (spec_l01Linear.k0 N K) (.exit 0) (spec_l01Linear.sx0_0) = (spec_l01Linear.a0_0 N (fun d0 => K (.bool (d0)) [])) := by kernel_rfl
theorem spec_l01Linear.l0_eq {ρ : Type} (N : Nat) (K : AV → Heap → Option ρ) (p0 : Int) (nv1 : Int) (f2 : Nat → Int) :
    ∀ (m : Nat) (i3 : Int), xloop (xcode (E8 N) ents spec_l01Linear.kp 0 N (cL (cK (cB (cA (cB spec_l01Linear.bd))))) 0) spec_l01Linear.kp 0 0 m (spec_l01Linear.st0 p0 nv1 f2 i3) (spec_l01Linear.k0 N K) = (spec_l01Linear.l0 N (fun d0 => K (.bool (d0)) []) p0 nv1 f2 ((spec_l01Linear.k0 N K) (.exit 0) (spec_l01Linear.sx0_0)) m i3) := by
  intro m
  induction m with
  | zero => intros; rfl
  | succ m ih =>
    intro i3
    refine (spec_l01Linear.b0_eq N K (fun s => xloop (xcode (E8 N) ents spec_l01Linear.kp 0 N (cL (cK (cB (cA (cB spec_l01Linear.bd))))) 0) spec_l01Linear.kp 0 0 m s (spec_l01Linear.k0 N K)) p0 nv1 f2 i3).trans ?_
    simp only [ih]
    kernel_rfl
theorem spec_l01Linear.s_eq {ρ : Type} (N : Nat) (K : AV → Heap → Option ρ) (p0 : Int) (nv1 : Int) (f2 : Nat → Int) :
    xbody (E8 N) ents spec_l01Linear.kp N Try.f104 spec_l01Linear.bd [.int .i64 (p0), .int .i64 (nv1), .agg [⟨.u8, 64, f2⟩]] [] K = (spec_l01Linear.s N (fun d0 => K (.bool (d0)) []) (fun i3 => xloop (xcode (E8 N) ents spec_l01Linear.kp 0 N (cL (cK (cB (cA (cB spec_l01Linear.bd))))) 0) spec_l01Linear.kp 0 0 N (spec_l01Linear.st0 p0 nv1 f2 i3) (spec_l01Linear.k0 N K))) := by kernel_rfl
theorem spec_l01Linear.eq {ρ : Type} (N : Nat) (K : AV → Heap → Option ρ) (p0 : Int) (nv1 : Int) (f2 : Nat → Int) :
    xbody (E8 N) ents spec_l01Linear.kp N Try.f104 spec_l01Linear.bd [.int .i64 (p0), .int .i64 (nv1), .agg [⟨.u8, 64, f2⟩]] [] K = (spec_l01Linear N (fun d0 => K (.bool (d0)) []) p0 nv1 f2) := by
  refine (spec_l01Linear.s_eq N K p0 nv1 f2).trans ?_
  simp only [spec_l01Linear.l0_eq, spec_l01Linear.a0_0_eq]
  kernel_rfl
def spec_l01Linear.en (N : Nat) (ρ : Type) : List AV → Heap → (AV → Heap → Option ρ) → Option ρ
  | [.int .i64 (p0), .int .i64 (nv1), .agg [⟨.u8, 64, f2⟩]], [], K => (spec_l01Linear N (fun d0 => K (.bool (d0)) []) p0 nv1 f2)
  | _, _, _ => none
theorem spec_l01Linear.en_ok (N : Nat) (hE : EnvOk (E8 N) ents) (ρ : Type) (args : List AV) (sh : Heap) (K : AV → Heap → Option ρ) (r : ρ) (h : spec_l01Linear.en N ρ args sh K = some r) : ∃ v sh', K v sh' = some r ∧ FnOk (E8 N).P 104 args sh v sh' := by
  unfold spec_l01Linear.en at h
  split at h
  · exact fn_ok hE (kp := spec_l01Linear.kp) (N := N) Try.func104 (c := spec_l01Linear.bd) (by kernel_rfl) ((spec_l01Linear.eq N _ _ _ _).trans h)
  · cases h
def E9 (N : Nat) : Env := (E8 N).add 104 (spec_l01Linear.en N)
theorem E9_ok (N : Nat) : EnvOk (E9 N) ents := Env.add_ok (E8_ok N) (spec_l01Linear.en_ok N (E8_ok N))
def spec_l01Table.kp : Keeps := ⟨[(0, [0, 1, 5, 7], [], [])], [(0, [], [], [])], []⟩
def spec_l01Table.bd : Code := bodyOf Try.f88
def spec_l01Table.fin {ρ : Type} (N : Nat) (K : AV → Heap → Option ρ) : XE → St → Option ρ := finK (E9 N) spec_l01Table.kp.fins Try.f88 [] K
def spec_l01Table.k0 {ρ : Type} (N : Nat) (K : AV → Heap → Option ρ) : XE → St → Option ρ := (blockK spec_l01Table.kp 0 0 (seqK (xcode (E9 N) ents spec_l01Table.kp 0 N (cB (cB spec_l01Table.bd)) 0) (spec_l01Table.fin N K)))
theorem spec_l01Table.k0_mix {ρ : Type} (N : Nat) (K : AV → Heap → Option ρ) : mixK (spec_l01Table.fin N K .ret) (spec_l01Table.k0 N K) = (spec_l01Table.k0 N K) := by
  funext e s; cases e <;> kernel_rfl
def spec_l01Table.st0 (p0 : Int) (nv1 : Int) (t2 : Nat → Int) (i3 : Int) : St := ⟨sl 31 [(0, .int .i64 (p0)), (1, .int .i64 (nv1)), (5, .sptr [(0, 512)]), (7, .int .i64 (i3))], [⟨true, .flat 512 (.ints .u8 t2)⟩]⟩
def spec_l01Table.sx0_0 : St := ⟨sl 31 [], []⟩
theorem spec_l01Table.b0_gen {ρ : Type} (N : Nat) (K : AV → Heap → Option ρ) (L0 : St → Option ρ) (kv : XE → St → Option ρ) (p0 : Int) (nv1 : Int) (t2 : Nat → Int) (i3 : Int) :
    xcode (E9 N) ents spec_l01Table.kp 0 N (cL (cK (cB (cA (cB spec_l01Table.bd))))) 0 (spec_l01Table.st0 p0 nv1 t2 i3) (roundK spec_l01Table.kp 0 0 L0 (mixK (spec_l01Table.fin N K .ret) kv)) = (spec_l01Table.b0 N (fun d0 => K (.bool (d0)) []) (fun i3 => L0 (spec_l01Table.st0 p0 nv1 t2 i3)) (kv (.exit 0) (spec_l01Table.sx0_0)) p0 nv1 t2 i3) := by kernel_rfl
theorem spec_l01Table.b0_eq {ρ : Type} (N : Nat) (K : AV → Heap → Option ρ) (L0 : St → Option ρ) (p0 : Int) (nv1 : Int) (t2 : Nat → Int) (i3 : Int) :
    xcode (E9 N) ents spec_l01Table.kp 0 N (cL (cK (cB (cA (cB spec_l01Table.bd))))) 0 (spec_l01Table.st0 p0 nv1 t2 i3) (roundK spec_l01Table.kp 0 0 L0 (spec_l01Table.k0 N K)) = (spec_l01Table.b0 N (fun d0 => K (.bool (d0)) []) (fun i3 => L0 (spec_l01Table.st0 p0 nv1 t2 i3)) ((spec_l01Table.k0 N K) (.exit 0) (spec_l01Table.sx0_0)) p0 nv1 t2 i3) := by
  have h := spec_l01Table.b0_gen N K L0 (spec_l01Table.k0 N K) p0 nv1 t2 i3
  rw [spec_l01Table.k0_mix] at h
  exact h
theorem spec_l01Table.a0_0_eq {ρ : Type} (N : Nat) (K : AV → Heap → Option ρ) :
    (spec_l01Table.k0 N K) (.exit 0) (spec_l01Table.sx0_0) = (spec_l01Table.a0_0 N (fun d0 => K (.bool (d0)) [])) := by kernel_rfl
theorem spec_l01Table.l0_eq {ρ : Type} (N : Nat) (K : AV → Heap → Option ρ) (p0 : Int) (nv1 : Int) (t2 : Nat → Int) :
    ∀ (m : Nat) (i3 : Int), xloop (xcode (E9 N) ents spec_l01Table.kp 0 N (cL (cK (cB (cA (cB spec_l01Table.bd))))) 0) spec_l01Table.kp 0 0 m (spec_l01Table.st0 p0 nv1 t2 i3) (spec_l01Table.k0 N K) = (spec_l01Table.l0 N (fun d0 => K (.bool (d0)) []) p0 nv1 t2 ((spec_l01Table.k0 N K) (.exit 0) (spec_l01Table.sx0_0)) m i3) := by
  intro m
  induction m with
  | zero => intros; rfl
  | succ m ih =>
    intro i3
    refine (spec_l01Table.b0_eq N K (fun s => xloop (xcode (E9 N) ents spec_l01Table.kp 0 N (cL (cK (cB (cA (cB spec_l01Table.bd))))) 0) spec_l01Table.kp 0 0 m s (spec_l01Table.k0 N K)) p0 nv1 t2 i3).trans ?_
    simp only [ih]
    kernel_rfl
theorem spec_l01Table.s_eq {ρ : Type} (N : Nat) (K : AV → Heap → Option ρ) (p0 : Int) (nv1 : Int) (t2 : Nat → Int) :
    xbody (E9 N) ents spec_l01Table.kp N Try.f88 spec_l01Table.bd [.int .i64 (p0), .int .i64 (nv1), .agg [⟨.u8, 512, t2⟩]] [] K = (spec_l01Table.s N (fun d0 => K (.bool (d0)) []) (fun i3 => xloop (xcode (E9 N) ents spec_l01Table.kp 0 N (cL (cK (cB (cA (cB spec_l01Table.bd))))) 0) spec_l01Table.kp 0 0 N (spec_l01Table.st0 p0 nv1 t2 i3) (spec_l01Table.k0 N K))) := by kernel_rfl
theorem spec_l01Table.eq {ρ : Type} (N : Nat) (K : AV → Heap → Option ρ) (p0 : Int) (nv1 : Int) (t2 : Nat → Int) :
    xbody (E9 N) ents spec_l01Table.kp N Try.f88 spec_l01Table.bd [.int .i64 (p0), .int .i64 (nv1), .agg [⟨.u8, 512, t2⟩]] [] K = (spec_l01Table N (fun d0 => K (.bool (d0)) []) p0 nv1 t2) := by
  refine (spec_l01Table.s_eq N K p0 nv1 t2).trans ?_
  simp only [spec_l01Table.l0_eq, spec_l01Table.a0_0_eq]
  kernel_rfl
def spec_l01Table.en (N : Nat) (ρ : Type) : List AV → Heap → (AV → Heap → Option ρ) → Option ρ
  | [.int .i64 (p0), .int .i64 (nv1), .agg [⟨.u8, 512, t2⟩]], [], K => (spec_l01Table N (fun d0 => K (.bool (d0)) []) p0 nv1 t2)
  | _, _, _ => none
theorem spec_l01Table.en_ok (N : Nat) (hE : EnvOk (E9 N) ents) (ρ : Type) (args : List AV) (sh : Heap) (K : AV → Heap → Option ρ) (r : ρ) (h : spec_l01Table.en N ρ args sh K = some r) : ∃ v sh', K v sh' = some r ∧ FnOk (E9 N).P 88 args sh v sh' := by
  unfold spec_l01Table.en at h
  split at h
  · exact fn_ok hE (kp := spec_l01Table.kp) (N := N) Try.func88 (c := spec_l01Table.bd) (by kernel_rfl) ((spec_l01Table.eq N _ _ _ _).trans h)
  · cases h
def E10 (N : Nat) : Env := (E9 N).add 88 (spec_l01Table.en N)
theorem E10_ok (N : Nat) : EnvOk (E10 N) ents := Env.add_ok (E9_ok N) (spec_l01Table.en_ok N (E9_ok N))
def spec_l01Shape.kp : Keeps := ⟨[], [], []⟩
def spec_l01Shape.bd : Code := bodyOf Try.f54
def spec_l01Shape.fin {ρ : Type} (N : Nat) (K : AV → Heap → Option ρ) : XE → St → Option ρ := finK (E10 N) spec_l01Shape.kp.fins Try.f54 [] K
theorem spec_l01Shape.eq {ρ : Type} (N : Nat) (K : AV → Heap → Option ρ) (av0 : Nat → Int) (av1 : Nat → Int) :
    xbody (E10 N) ents spec_l01Shape.kp N Try.f54 spec_l01Shape.bd [.agg [⟨.i64, 2, av0⟩, ⟨.u8, 520, av1⟩]] [] K = (spec_l01Shape N (fun d0 => K (.bool (d0)) []) av0 av1) := by kernel_rfl
def spec_l01Shape.en (N : Nat) (ρ : Type) : List AV → Heap → (AV → Heap → Option ρ) → Option ρ
  | [.agg [⟨.i64, 2, av0⟩, ⟨.u8, 520, av1⟩]], [], K => (spec_l01Shape N (fun d0 => K (.bool (d0)) []) av0 av1)
  | _, _, _ => none
theorem spec_l01Shape.en_ok (N : Nat) (hE : EnvOk (E10 N) ents) (ρ : Type) (args : List AV) (sh : Heap) (K : AV → Heap → Option ρ) (r : ρ) (h : spec_l01Shape.en N ρ args sh K = some r) : ∃ v sh', K v sh' = some r ∧ FnOk (E10 N).P 54 args sh v sh' := by
  unfold spec_l01Shape.en at h
  split at h
  · exact fn_ok hE (kp := spec_l01Shape.kp) (N := N) Try.func54 (c := spec_l01Shape.bd) (by kernel_rfl) ((spec_l01Shape.eq N _ _ _).trans h)
  · cases h
def E11 (N : Nat) : Env := (E10 N).add 54 (spec_l01Shape.en N)
theorem E11_ok (N : Nat) : EnvOk (E11 N) ents := Env.add_ok (E10_ok N) (spec_l01Shape.en_ok N (E10_ok N))
def spec_l01Basis.kp : Keeps := ⟨[], [], []⟩
def spec_l01Basis.bd : Code := bodyOf Try.f82
def spec_l01Basis.fin {ρ : Type} (N : Nat) (K : AV → Heap → Option ρ) : XE → St → Option ρ := finK (E11 N) spec_l01Basis.kp.fins Try.f82 [] K
theorem spec_l01Basis.eq {ρ : Type} (N : Nat) (K : AV → Heap → Option ρ) (i0 : Int) :
    xbody (E11 N) ents spec_l01Basis.kp N Try.f82 spec_l01Basis.bd [.int .i64 (i0)] [] K = (spec_l01Basis N (fun d0 => K (.agg [⟨.u8, 8, d0⟩]) []) i0) := by kernel_rfl
def spec_l01Basis.en (N : Nat) (ρ : Type) : List AV → Heap → (AV → Heap → Option ρ) → Option ρ
  | [.int .i64 (i0)], [], K => (spec_l01Basis N (fun d0 => K (.agg [⟨.u8, 8, d0⟩]) []) i0)
  | _, _, _ => none
theorem spec_l01Basis.en_ok (N : Nat) (hE : EnvOk (E11 N) ents) (ρ : Type) (args : List AV) (sh : Heap) (K : AV → Heap → Option ρ) (r : ρ) (h : spec_l01Basis.en N ρ args sh K = some r) : ∃ v sh', K v sh' = some r ∧ FnOk (E11 N).P 82 args sh v sh' := by
  unfold spec_l01Basis.en at h
  split at h
  · exact fn_ok hE (kp := spec_l01Basis.kp) (N := N) Try.func82 (c := spec_l01Basis.bd) (by kernel_rfl) ((spec_l01Basis.eq N _ _).trans h)
  · cases h
def E12 (N : Nat) : Env := (E11 N).add 82 (spec_l01Basis.en N)
theorem E12_ok (N : Nat) : EnvOk (E12 N) ents := Env.add_ok (E11_ok N) (spec_l01Basis.en_ok N (E11_ok N))
def spec_l01Mod.kp : Keeps := ⟨[], [], []⟩
def spec_l01Mod.bd : Code := bodyOf Try.f92
def spec_l01Mod.fin {ρ : Type} (N : Nat) (K : AV → Heap → Option ρ) : XE → St → Option ρ := finK (E12 N) spec_l01Mod.kp.fins Try.f92 [] K
theorem spec_l01Mod.eq {ρ : Type} (N : Nat) (K : AV → Heap → Option ρ) (p0 : Int) (x1 : Int) :
    xbody (E12 N) ents spec_l01Mod.kp N Try.f92 spec_l01Mod.bd [.int .i64 (p0), .int .i64 (x1)] [] K = (spec_l01Mod N (fun d0 => K (.int .u8 (d0)) []) p0 x1) := by kernel_rfl
def spec_l01Mod.en (N : Nat) (ρ : Type) : List AV → Heap → (AV → Heap → Option ρ) → Option ρ
  | [.int .i64 (p0), .int .i64 (x1)], [], K => (spec_l01Mod N (fun d0 => K (.int .u8 (d0)) []) p0 x1)
  | _, _, _ => none
theorem spec_l01Mod.en_ok (N : Nat) (hE : EnvOk (E12 N) ents) (ρ : Type) (args : List AV) (sh : Heap) (K : AV → Heap → Option ρ) (r : ρ) (h : spec_l01Mod.en N ρ args sh K = some r) : ∃ v sh', K v sh' = some r ∧ FnOk (E12 N).P 92 args sh v sh' := by
  unfold spec_l01Mod.en at h
  split at h
  · exact fn_ok hE (kp := spec_l01Mod.kp) (N := N) Try.func92 (c := spec_l01Mod.bd) (by kernel_rfl) ((spec_l01Mod.eq N _ _ _).trans h)
  · cases h
def E13 (N : Nat) : Env := (E12 N).add 92 (spec_l01Mod.en N)
theorem E13_ok (N : Nat) : EnvOk (E13 N) ents := Env.add_ok (E12_ok N) (spec_l01Mod.en_ok N (E12_ok N))
def spec_l01Add.kp : Keeps := ⟨[(0, [0, 3, 5, 6, 8, 9], [], [])], [(0, [5, 8], [], [])], []⟩
def spec_l01Add.bd : Code := bodyOf Try.f77
def spec_l01Add.fin {ρ : Type} (N : Nat) (K : AV → Heap → Option ρ) : XE → St → Option ρ := finK (E13 N) spec_l01Add.kp.fins Try.f77 [] K
def spec_l01Add.k0 {ρ : Type} (N : Nat) (K : AV → Heap → Option ρ) : XE → St → Option ρ := (blockK spec_l01Add.kp 0 0 (seqK (xcode (E13 N) ents spec_l01Add.kp 0 N (cB (cB spec_l01Add.bd)) 0) (spec_l01Add.fin N K)))
theorem spec_l01Add.k0_mix {ρ : Type} (N : Nat) (K : AV → Heap → Option ρ) : mixK (spec_l01Add.fin N K .ret) (spec_l01Add.k0 N K) = (spec_l01Add.k0 N K) := by
  funext e s; cases e <;> kernel_rfl
def spec_l01Add.st0 (p0 : Int) (w2 : Nat → Int) (k3 : Int) (i4 : Int) (gv5 : Nat → Int) : St := ⟨sl 30 [(0, .int .i64 (p0)), (3, .int .i64 (k3)), (5, .sptr [(0, 8)]), (6, .sptr [(1, 8)]), (8, .sptr [(2, 8)]), (9, .int .i64 (i4))], [⟨true, .flat 8 (.ints .u8 gv5)⟩, ⟨true, .flat 8 (.ints .u8 w2)⟩, ⟨true, .flat 8 (.ints .u8 (fun _ => 0))⟩]⟩
def spec_l01Add.sx0_0 (ov7 : Nat → Int) : St := ⟨sl 30 [(5, .sptr [(0, 8)]), (8, .sptr [(1, 8)])], [⟨true, .flat 8 (.ints .u8 ov7)⟩, ⟨true, .flat 8 (.ints .u8 (fun _ => 0))⟩]⟩
theorem spec_l01Add.b0_gen {ρ : Type} (N : Nat) (K : AV → Heap → Option ρ) (L0 : St → Option ρ) (kv : XE → St → Option ρ) (p0 : Int) (w2 : Nat → Int) (k3 : Int) (i4 : Int) (gv5 : Nat → Int) :
    xcode (E13 N) ents spec_l01Add.kp 0 N (cL (cK (cB (cA (cB spec_l01Add.bd))))) 0 (spec_l01Add.st0 p0 w2 k3 i4 gv5) (roundK spec_l01Add.kp 0 0 L0 (mixK (spec_l01Add.fin N K .ret) kv)) = (spec_l01Add.b0 N (fun d0 => K (.agg [⟨.u8, 8, d0⟩]) []) (fun i4 gv5 => L0 (spec_l01Add.st0 p0 w2 k3 i4 gv5)) (fun ov7 => kv (.exit 0) (spec_l01Add.sx0_0 ov7)) p0 w2 k3 i4 gv5) := by kernel_rfl
theorem spec_l01Add.b0_eq {ρ : Type} (N : Nat) (K : AV → Heap → Option ρ) (L0 : St → Option ρ) (p0 : Int) (w2 : Nat → Int) (k3 : Int) (i4 : Int) (gv5 : Nat → Int) :
    xcode (E13 N) ents spec_l01Add.kp 0 N (cL (cK (cB (cA (cB spec_l01Add.bd))))) 0 (spec_l01Add.st0 p0 w2 k3 i4 gv5) (roundK spec_l01Add.kp 0 0 L0 (spec_l01Add.k0 N K)) = (spec_l01Add.b0 N (fun d0 => K (.agg [⟨.u8, 8, d0⟩]) []) (fun i4 gv5 => L0 (spec_l01Add.st0 p0 w2 k3 i4 gv5)) (fun ov7 => (spec_l01Add.k0 N K) (.exit 0) (spec_l01Add.sx0_0 ov7)) p0 w2 k3 i4 gv5) := by
  have h := spec_l01Add.b0_gen N K L0 (spec_l01Add.k0 N K) p0 w2 k3 i4 gv5
  rw [spec_l01Add.k0_mix] at h
  exact h
theorem spec_l01Add.a0_0_eq {ρ : Type} (N : Nat) (K : AV → Heap → Option ρ) (ov7 : Nat → Int) :
    (spec_l01Add.k0 N K) (.exit 0) (spec_l01Add.sx0_0 ov7) = (spec_l01Add.a0_0 N (fun d0 => K (.agg [⟨.u8, 8, d0⟩]) []) ov7) := by kernel_rfl
theorem spec_l01Add.l0_eq {ρ : Type} (N : Nat) (K : AV → Heap → Option ρ) (p0 : Int) (w2 : Nat → Int) (k3 : Int) :
    ∀ (m : Nat) (i4 : Int) (gv5 : Nat → Int), xloop (xcode (E13 N) ents spec_l01Add.kp 0 N (cL (cK (cB (cA (cB spec_l01Add.bd))))) 0) spec_l01Add.kp 0 0 m (spec_l01Add.st0 p0 w2 k3 i4 gv5) (spec_l01Add.k0 N K) = (spec_l01Add.l0 N (fun d0 => K (.agg [⟨.u8, 8, d0⟩]) []) p0 w2 k3 (fun ov7 => (spec_l01Add.k0 N K) (.exit 0) (spec_l01Add.sx0_0 ov7)) m i4 gv5) := by
  intro m
  induction m with
  | zero => intros; rfl
  | succ m ih =>
    intro i4 gv5
    refine (spec_l01Add.b0_eq N K (fun s => xloop (xcode (E13 N) ents spec_l01Add.kp 0 N (cL (cK (cB (cA (cB spec_l01Add.bd))))) 0) spec_l01Add.kp 0 0 m s (spec_l01Add.k0 N K)) p0 w2 k3 i4 gv5).trans ?_
    simp only [ih]
    kernel_rfl
theorem spec_l01Add.s_eq {ρ : Type} (N : Nat) (K : AV → Heap → Option ρ) (p0 : Int) (v1 : Nat → Int) (w2 : Nat → Int) (k3 : Int) :
    xbody (E13 N) ents spec_l01Add.kp N Try.f77 spec_l01Add.bd [.int .i64 (p0), .agg [⟨.u8, 8, v1⟩], .agg [⟨.u8, 8, w2⟩], .int .i64 (k3)] [] K = (spec_l01Add.s N (fun d0 => K (.agg [⟨.u8, 8, d0⟩]) []) (fun i4 gv5 => xloop (xcode (E13 N) ents spec_l01Add.kp 0 N (cL (cK (cB (cA (cB spec_l01Add.bd))))) 0) spec_l01Add.kp 0 0 N (spec_l01Add.st0 p0 w2 k3 i4 gv5) (spec_l01Add.k0 N K)) v1) := by kernel_rfl
theorem spec_l01Add.eq {ρ : Type} (N : Nat) (K : AV → Heap → Option ρ) (p0 : Int) (v1 : Nat → Int) (w2 : Nat → Int) (k3 : Int) :
    xbody (E13 N) ents spec_l01Add.kp N Try.f77 spec_l01Add.bd [.int .i64 (p0), .agg [⟨.u8, 8, v1⟩], .agg [⟨.u8, 8, w2⟩], .int .i64 (k3)] [] K = (spec_l01Add N (fun d0 => K (.agg [⟨.u8, 8, d0⟩]) []) p0 v1 w2 k3) := by
  refine (spec_l01Add.s_eq N K p0 v1 w2 k3).trans ?_
  simp only [spec_l01Add.l0_eq, spec_l01Add.a0_0_eq]
  kernel_rfl
def spec_l01Add.en (N : Nat) (ρ : Type) : List AV → Heap → (AV → Heap → Option ρ) → Option ρ
  | [.int .i64 (p0), .agg [⟨.u8, 8, v1⟩], .agg [⟨.u8, 8, w2⟩], .int .i64 (k3)], [], K => (spec_l01Add N (fun d0 => K (.agg [⟨.u8, 8, d0⟩]) []) p0 v1 w2 k3)
  | _, _, _ => none
theorem spec_l01Add.en_ok (N : Nat) (hE : EnvOk (E13 N) ents) (ρ : Type) (args : List AV) (sh : Heap) (K : AV → Heap → Option ρ) (r : ρ) (h : spec_l01Add.en N ρ args sh K = some r) : ∃ v sh', K v sh' = some r ∧ FnOk (E13 N).P 77 args sh v sh' := by
  unfold spec_l01Add.en at h
  split at h
  · exact fn_ok hE (kp := spec_l01Add.kp) (N := N) Try.func77 (c := spec_l01Add.bd) (by kernel_rfl) ((spec_l01Add.eq N _ _ _ _ _).trans h)
  · cases h
def E14 (N : Nat) : Env := (E13 N).add 77 (spec_l01Add.en N)
theorem E14_ok (N : Nat) : EnvOk (E14 N) ents := Env.add_ok (E13_ok N) (spec_l01Add.en_ok N (E13_ok N))
def spec_l01Apply.kp : Keeps := ⟨[(0, [0, 1, 6, 7, 8, 9, 10], [], [])], [(0, [8, 9], [], [])], []⟩
def spec_l01Apply.bd : Code := bodyOf Try.f90
def spec_l01Apply.fin {ρ : Type} (N : Nat) (K : AV → Heap → Option ρ) : XE → St → Option ρ := finK (E14 N) spec_l01Apply.kp.fins Try.f90 [] K
def spec_l01Apply.k0 {ρ : Type} (N : Nat) (K : AV → Heap → Option ρ) : XE → St → Option ρ := (blockK spec_l01Apply.kp 0 0 (seqK (xcode (E14 N) ents spec_l01Apply.kp 0 N (cB (cB (cB spec_l01Apply.bd))) 0) (spec_l01Apply.fin N K)))
theorem spec_l01Apply.k0_mix {ρ : Type} (N : Nat) (K : AV → Heap → Option ρ) : mixK (spec_l01Apply.fin N K .ret) (spec_l01Apply.k0 N K) = (spec_l01Apply.k0 N K) := by
  funext e s; cases e <;> kernel_rfl
def spec_l01Apply.st0 (p0 : Int) (nv1 : Int) (f2 : Nat → Int) (v3 : Nat → Int) (i4 : Int) (gv5 : Nat → Int) : St := ⟨sl 32 [(0, .int .i64 (p0)), (1, .int .i64 (nv1)), (6, .sptr [(0, 64)]), (7, .sptr [(1, 8)]), (8, .sptr [(2, 8)]), (9, .sptr [(3, 8)]), (10, .int .i64 (i4))], [⟨true, .flat 64 (.ints .u8 f2)⟩, ⟨true, .flat 8 (.ints .u8 v3)⟩, ⟨true, .flat 8 (.ints .u8 (fun _ => 0))⟩, ⟨true, .flat 8 (.ints .u8 gv5)⟩]⟩
def spec_l01Apply.sx0_0 (ov7 : Nat → Int) : St := ⟨sl 32 [(8, .sptr [(0, 8)]), (9, .sptr [(1, 8)])], [⟨true, .flat 8 (.ints .u8 (fun _ => 0))⟩, ⟨true, .flat 8 (.ints .u8 ov7)⟩]⟩
theorem spec_l01Apply.b0_gen {ρ : Type} (N : Nat) (K : AV → Heap → Option ρ) (L0 : St → Option ρ) (kv : XE → St → Option ρ) (p0 : Int) (nv1 : Int) (f2 : Nat → Int) (v3 : Nat → Int) (i4 : Int) (gv5 : Nat → Int) :
    xcode (E14 N) ents spec_l01Apply.kp 0 N (cL (cK (cB (cA (cB (cB spec_l01Apply.bd)))))) 0 (spec_l01Apply.st0 p0 nv1 f2 v3 i4 gv5) (roundK spec_l01Apply.kp 0 0 L0 (mixK (spec_l01Apply.fin N K .ret) kv)) = (spec_l01Apply.b0 N (fun d0 => K (.agg [⟨.u8, 8, d0⟩]) []) (fun i4 gv5 => L0 (spec_l01Apply.st0 p0 nv1 f2 v3 i4 gv5)) (fun ov7 => kv (.exit 0) (spec_l01Apply.sx0_0 ov7)) p0 nv1 f2 v3 i4 gv5) := by kernel_rfl
theorem spec_l01Apply.b0_eq {ρ : Type} (N : Nat) (K : AV → Heap → Option ρ) (L0 : St → Option ρ) (p0 : Int) (nv1 : Int) (f2 : Nat → Int) (v3 : Nat → Int) (i4 : Int) (gv5 : Nat → Int) :
    xcode (E14 N) ents spec_l01Apply.kp 0 N (cL (cK (cB (cA (cB (cB spec_l01Apply.bd)))))) 0 (spec_l01Apply.st0 p0 nv1 f2 v3 i4 gv5) (roundK spec_l01Apply.kp 0 0 L0 (spec_l01Apply.k0 N K)) = (spec_l01Apply.b0 N (fun d0 => K (.agg [⟨.u8, 8, d0⟩]) []) (fun i4 gv5 => L0 (spec_l01Apply.st0 p0 nv1 f2 v3 i4 gv5)) (fun ov7 => (spec_l01Apply.k0 N K) (.exit 0) (spec_l01Apply.sx0_0 ov7)) p0 nv1 f2 v3 i4 gv5) := by
  have h := spec_l01Apply.b0_gen N K L0 (spec_l01Apply.k0 N K) p0 nv1 f2 v3 i4 gv5
  rw [spec_l01Apply.k0_mix] at h
  exact h
theorem spec_l01Apply.a0_0_eq {ρ : Type} (N : Nat) (K : AV → Heap → Option ρ) (ov7 : Nat → Int) :
    (spec_l01Apply.k0 N K) (.exit 0) (spec_l01Apply.sx0_0 ov7) = (spec_l01Apply.a0_0 N (fun d0 => K (.agg [⟨.u8, 8, d0⟩]) []) ov7) := by kernel_rfl
theorem spec_l01Apply.l0_eq {ρ : Type} (N : Nat) (K : AV → Heap → Option ρ) (p0 : Int) (nv1 : Int) (f2 : Nat → Int) (v3 : Nat → Int) :
    ∀ (m : Nat) (i4 : Int) (gv5 : Nat → Int), xloop (xcode (E14 N) ents spec_l01Apply.kp 0 N (cL (cK (cB (cA (cB (cB spec_l01Apply.bd)))))) 0) spec_l01Apply.kp 0 0 m (spec_l01Apply.st0 p0 nv1 f2 v3 i4 gv5) (spec_l01Apply.k0 N K) = (spec_l01Apply.l0 N (fun d0 => K (.agg [⟨.u8, 8, d0⟩]) []) p0 nv1 f2 v3 (fun ov7 => (spec_l01Apply.k0 N K) (.exit 0) (spec_l01Apply.sx0_0 ov7)) m i4 gv5) := by
  intro m
  induction m with
  | zero => intros; rfl
  | succ m ih =>
    intro i4 gv5
    refine (spec_l01Apply.b0_eq N K (fun s => xloop (xcode (E14 N) ents spec_l01Apply.kp 0 N (cL (cK (cB (cA (cB (cB spec_l01Apply.bd)))))) 0) spec_l01Apply.kp 0 0 m s (spec_l01Apply.k0 N K)) p0 nv1 f2 v3 i4 gv5).trans ?_
    simp only [ih]
    kernel_rfl
theorem spec_l01Apply.s_eq {ρ : Type} (N : Nat) (K : AV → Heap → Option ρ) (p0 : Int) (nv1 : Int) (f2 : Nat → Int) (v3 : Nat → Int) :
    xbody (E14 N) ents spec_l01Apply.kp N Try.f90 spec_l01Apply.bd [.int .i64 (p0), .int .i64 (nv1), .agg [⟨.u8, 64, f2⟩], .agg [⟨.u8, 8, v3⟩]] [] K = (spec_l01Apply.s N (fun d0 => K (.agg [⟨.u8, 8, d0⟩]) []) (fun i4 gv5 => xloop (xcode (E14 N) ents spec_l01Apply.kp 0 N (cL (cK (cB (cA (cB (cB spec_l01Apply.bd)))))) 0) spec_l01Apply.kp 0 0 N (spec_l01Apply.st0 p0 nv1 f2 v3 i4 gv5) (spec_l01Apply.k0 N K))) := by kernel_rfl
theorem spec_l01Apply.eq {ρ : Type} (N : Nat) (K : AV → Heap → Option ρ) (p0 : Int) (nv1 : Int) (f2 : Nat → Int) (v3 : Nat → Int) :
    xbody (E14 N) ents spec_l01Apply.kp N Try.f90 spec_l01Apply.bd [.int .i64 (p0), .int .i64 (nv1), .agg [⟨.u8, 64, f2⟩], .agg [⟨.u8, 8, v3⟩]] [] K = (spec_l01Apply N (fun d0 => K (.agg [⟨.u8, 8, d0⟩]) []) p0 nv1 f2 v3) := by
  refine (spec_l01Apply.s_eq N K p0 nv1 f2 v3).trans ?_
  simp only [spec_l01Apply.l0_eq, spec_l01Apply.a0_0_eq]
  kernel_rfl
def spec_l01Apply.en (N : Nat) (ρ : Type) : List AV → Heap → (AV → Heap → Option ρ) → Option ρ
  | [.int .i64 (p0), .int .i64 (nv1), .agg [⟨.u8, 64, f2⟩], .agg [⟨.u8, 8, v3⟩]], [], K => (spec_l01Apply N (fun d0 => K (.agg [⟨.u8, 8, d0⟩]) []) p0 nv1 f2 v3)
  | _, _, _ => none
theorem spec_l01Apply.en_ok (N : Nat) (hE : EnvOk (E14 N) ents) (ρ : Type) (args : List AV) (sh : Heap) (K : AV → Heap → Option ρ) (r : ρ) (h : spec_l01Apply.en N ρ args sh K = some r) : ∃ v sh', K v sh' = some r ∧ FnOk (E14 N).P 90 args sh v sh' := by
  unfold spec_l01Apply.en at h
  split at h
  · exact fn_ok hE (kp := spec_l01Apply.kp) (N := N) Try.func90 (c := spec_l01Apply.bd) (by kernel_rfl) ((spec_l01Apply.eq N _ _ _ _ _).trans h)
  · cases h
def E15 (N : Nat) : Env := (E14 N).add 90 (spec_l01Apply.en N)
theorem E15_ok (N : Nat) : EnvOk (E15 N) ents := Env.add_ok (E14_ok N) (spec_l01Apply.en_ok N (E14_ok N))
def spec_l01Times.kp : Keeps := ⟨[(0, [3, 4, 5, 6, 7, 8], [], [])], [(0, [6, 7], [], [])], []⟩
def spec_l01Times.bd : Code := bodyOf Try.f60
def spec_l01Times.fin {ρ : Type} (N : Nat) (K : AV → Heap → Option ρ) : XE → St → Option ρ := finK (E15 N) spec_l01Times.kp.fins Try.f60 [] K
def spec_l01Times.k0 {ρ : Type} (N : Nat) (K : AV → Heap → Option ρ) : XE → St → Option ρ := (blockK spec_l01Times.kp 0 0 (seqK (xcode (E15 N) ents spec_l01Times.kp 0 N (cB (cB (cB spec_l01Times.bd))) 0) (spec_l01Times.fin N K)))
theorem spec_l01Times.k0_mix {ρ : Type} (N : Nat) (K : AV → Heap → Option ρ) : mixK (spec_l01Times.fin N K .ret) (spec_l01Times.k0 N K) = (spec_l01Times.k0 N K) := by
  funext e s; cases e <;> kernel_rfl
def spec_l01Times.st0 (av0 : Nat → Int) (av1 : Nat → Int) (v2 : Nat → Int) (w3 : Nat → Int) (i4 : Int) (gv5 : Nat → Int) : St := ⟨sl 39 [(3, .sptr [(0, 2), (1, 520)]), (4, .sptr [(2, 8)]), (5, .sptr [(3, 8)]), (6, .sptr [(4, 8)]), (7, .sptr [(5, 8)]), (8, .int .i64 (i4))], [⟨true, .flat 2 (.ints .i64 av0)⟩, ⟨true, .flat 520 (.ints .u8 av1)⟩, ⟨true, .flat 8 (.ints .u8 v2)⟩, ⟨true, .flat 8 (.ints .u8 w3)⟩, ⟨true, .flat 8 (.ints .u8 (fun _ => 0))⟩, ⟨true, .flat 8 (.ints .u8 gv5)⟩]⟩
def spec_l01Times.sx0_0 (ov8 : Nat → Int) : St := ⟨sl 39 [(6, .sptr [(0, 8)]), (7, .sptr [(1, 8)])], [⟨true, .flat 8 (.ints .u8 (fun _ => 0))⟩, ⟨true, .flat 8 (.ints .u8 ov8)⟩]⟩
theorem spec_l01Times.b0_gen {ρ : Type} (N : Nat) (K : AV → Heap → Option ρ) (L0 : St → Option ρ) (kv : XE → St → Option ρ) (av0 : Nat → Int) (av1 : Nat → Int) (v2 : Nat → Int) (w3 : Nat → Int) (i4 : Int) (gv5 : Nat → Int) :
    xcode (E15 N) ents spec_l01Times.kp 0 N (cL (cK (cB (cA (cB (cB spec_l01Times.bd)))))) 0 (spec_l01Times.st0 av0 av1 v2 w3 i4 gv5) (roundK spec_l01Times.kp 0 0 L0 (mixK (spec_l01Times.fin N K .ret) kv)) = (spec_l01Times.b0 N (fun d0 => K (.agg [⟨.u8, 8, d0⟩]) []) (fun i4 gv5 => L0 (spec_l01Times.st0 av0 av1 v2 w3 i4 gv5)) (fun ov8 => kv (.exit 0) (spec_l01Times.sx0_0 ov8)) av0 av1 v2 w3 i4 gv5) := by kernel_rfl
theorem spec_l01Times.b0_eq {ρ : Type} (N : Nat) (K : AV → Heap → Option ρ) (L0 : St → Option ρ) (av0 : Nat → Int) (av1 : Nat → Int) (v2 : Nat → Int) (w3 : Nat → Int) (i4 : Int) (gv5 : Nat → Int) :
    xcode (E15 N) ents spec_l01Times.kp 0 N (cL (cK (cB (cA (cB (cB spec_l01Times.bd)))))) 0 (spec_l01Times.st0 av0 av1 v2 w3 i4 gv5) (roundK spec_l01Times.kp 0 0 L0 (spec_l01Times.k0 N K)) = (spec_l01Times.b0 N (fun d0 => K (.agg [⟨.u8, 8, d0⟩]) []) (fun i4 gv5 => L0 (spec_l01Times.st0 av0 av1 v2 w3 i4 gv5)) (fun ov8 => (spec_l01Times.k0 N K) (.exit 0) (spec_l01Times.sx0_0 ov8)) av0 av1 v2 w3 i4 gv5) := by
  have h := spec_l01Times.b0_gen N K L0 (spec_l01Times.k0 N K) av0 av1 v2 w3 i4 gv5
  rw [spec_l01Times.k0_mix] at h
  exact h
theorem spec_l01Times.a0_0_eq {ρ : Type} (N : Nat) (K : AV → Heap → Option ρ) (ov8 : Nat → Int) :
    (spec_l01Times.k0 N K) (.exit 0) (spec_l01Times.sx0_0 ov8) = (spec_l01Times.a0_0 N (fun d0 => K (.agg [⟨.u8, 8, d0⟩]) []) ov8) := by kernel_rfl
theorem spec_l01Times.l0_eq {ρ : Type} (N : Nat) (K : AV → Heap → Option ρ) (av0 : Nat → Int) (av1 : Nat → Int) (v2 : Nat → Int) (w3 : Nat → Int) :
    ∀ (m : Nat) (i4 : Int) (gv5 : Nat → Int), xloop (xcode (E15 N) ents spec_l01Times.kp 0 N (cL (cK (cB (cA (cB (cB spec_l01Times.bd)))))) 0) spec_l01Times.kp 0 0 m (spec_l01Times.st0 av0 av1 v2 w3 i4 gv5) (spec_l01Times.k0 N K) = (spec_l01Times.l0 N (fun d0 => K (.agg [⟨.u8, 8, d0⟩]) []) av0 av1 v2 w3 (fun ov8 => (spec_l01Times.k0 N K) (.exit 0) (spec_l01Times.sx0_0 ov8)) m i4 gv5) := by
  intro m
  induction m with
  | zero => intros; rfl
  | succ m ih =>
    intro i4 gv5
    refine (spec_l01Times.b0_eq N K (fun s => xloop (xcode (E15 N) ents spec_l01Times.kp 0 N (cL (cK (cB (cA (cB (cB spec_l01Times.bd)))))) 0) spec_l01Times.kp 0 0 m s (spec_l01Times.k0 N K)) av0 av1 v2 w3 i4 gv5).trans ?_
    simp only [ih]
    kernel_rfl
theorem spec_l01Times.s_eq {ρ : Type} (N : Nat) (K : AV → Heap → Option ρ) (av0 : Nat → Int) (av1 : Nat → Int) (v2 : Nat → Int) (w3 : Nat → Int) :
    xbody (E15 N) ents spec_l01Times.kp N Try.f60 spec_l01Times.bd [.agg [⟨.i64, 2, av0⟩, ⟨.u8, 520, av1⟩], .agg [⟨.u8, 8, v2⟩], .agg [⟨.u8, 8, w3⟩]] [] K = (spec_l01Times.s N (fun d0 => K (.agg [⟨.u8, 8, d0⟩]) []) (fun i4 gv5 => xloop (xcode (E15 N) ents spec_l01Times.kp 0 N (cL (cK (cB (cA (cB (cB spec_l01Times.bd)))))) 0) spec_l01Times.kp 0 0 N (spec_l01Times.st0 av0 av1 v2 w3 i4 gv5) (spec_l01Times.k0 N K))) := by kernel_rfl
theorem spec_l01Times.eq {ρ : Type} (N : Nat) (K : AV → Heap → Option ρ) (av0 : Nat → Int) (av1 : Nat → Int) (v2 : Nat → Int) (w3 : Nat → Int) :
    xbody (E15 N) ents spec_l01Times.kp N Try.f60 spec_l01Times.bd [.agg [⟨.i64, 2, av0⟩, ⟨.u8, 520, av1⟩], .agg [⟨.u8, 8, v2⟩], .agg [⟨.u8, 8, w3⟩]] [] K = (spec_l01Times N (fun d0 => K (.agg [⟨.u8, 8, d0⟩]) []) av0 av1 v2 w3) := by
  refine (spec_l01Times.s_eq N K av0 av1 v2 w3).trans ?_
  simp only [spec_l01Times.l0_eq, spec_l01Times.a0_0_eq]
  kernel_rfl
def spec_l01Times.en (N : Nat) (ρ : Type) : List AV → Heap → (AV → Heap → Option ρ) → Option ρ
  | [.agg [⟨.i64, 2, av0⟩, ⟨.u8, 520, av1⟩], .agg [⟨.u8, 8, v2⟩], .agg [⟨.u8, 8, w3⟩]], [], K => (spec_l01Times N (fun d0 => K (.agg [⟨.u8, 8, d0⟩]) []) av0 av1 v2 w3)
  | _, _, _ => none
theorem spec_l01Times.en_ok (N : Nat) (hE : EnvOk (E15 N) ents) (ρ : Type) (args : List AV) (sh : Heap) (K : AV → Heap → Option ρ) (r : ρ) (h : spec_l01Times.en N ρ args sh K = some r) : ∃ v sh', K v sh' = some r ∧ FnOk (E15 N).P 60 args sh v sh' := by
  unfold spec_l01Times.en at h
  split at h
  · exact fn_ok hE (kp := spec_l01Times.kp) (N := N) Try.func60 (c := spec_l01Times.bd) (by kernel_rfl) ((spec_l01Times.eq N _ _ _ _ _).trans h)
  · cases h
def E16 (N : Nat) : Env := (E15 N).add 60 (spec_l01Times.en N)
theorem E16_ok (N : Nat) : EnvOk (E16 N) ents := Env.add_ok (E15_ok N) (spec_l01Times.en_ok N (E15_ok N))
def spec_l01Fault.kp : Keeps := ⟨[(0, [1, 4], [], []), (2, [1, 4, 5], [], []), (4, [1, 4, 5, 6], [], [])], [(0, [], [], []), (2, [1, 4], [], []), (4, [1, 4, 5], [], [])], []⟩
def spec_l01Fault.bd : Code := bodyOf Try.f55
def spec_l01Fault.fin {ρ : Type} (N : Nat) (K : AV → Heap → Option ρ) : XE → St → Option ρ := finK (E16 N) spec_l01Fault.kp.fins Try.f55 [] K
def spec_l01Fault.k0 {ρ : Type} (N : Nat) (K : AV → Heap → Option ρ) : XE → St → Option ρ := (blockK spec_l01Fault.kp 0 0 (seqK (xcode (E16 N) ents spec_l01Fault.kp 0 N (cB (cB spec_l01Fault.bd)) 0) (spec_l01Fault.fin N K)))
theorem spec_l01Fault.k0_mix {ρ : Type} (N : Nat) (K : AV → Heap → Option ρ) : mixK (spec_l01Fault.fin N K .ret) (spec_l01Fault.k0 N K) = (spec_l01Fault.k0 N K) := by
  funext e s; cases e <;> kernel_rfl
def spec_l01Fault.st0 (av0 : Nat → Int) (av1 : Nat → Int) (i2 : Int) : St := ⟨sl 50 [(1, .sptr [(0, 2), (1, 520)]), (4, .int .i64 (i2))], [⟨true, .flat 2 (.ints .i64 av0)⟩, ⟨true, .flat 520 (.ints .u8 av1)⟩]⟩
def spec_l01Fault.sx0_0 : St := ⟨sl 50 [], []⟩
def spec_l01Fault.k1g {ρ : Type} (N : Nat) (L0 : St → Option ρ) (kv : XE → St → Option ρ) : XE → St → Option ρ := (blockK spec_l01Fault.kp 0 2 (blockK spec_l01Fault.kp 0 1 (seqK (xcode (E16 N) ents spec_l01Fault.kp 0 N (cB (cB (cL (cK (cB (cA (cB spec_l01Fault.bd))))))) 0) (roundK spec_l01Fault.kp 0 0 L0 kv))))
theorem spec_l01Fault.k1_mix {ρ : Type} (N : Nat) (K : AV → Heap → Option ρ) (L0 : St → Option ρ) : mixK (spec_l01Fault.fin N K .ret) (spec_l01Fault.k1g N L0 (spec_l01Fault.k0 N K)) = (spec_l01Fault.k1g N L0 (spec_l01Fault.k0 N K)) := by
  funext e s; cases e <;> kernel_rfl
def spec_l01Fault.st1 (av0 : Nat → Int) (av1 : Nat → Int) (i2 : Int) (j3 : Int) : St := ⟨sl 50 [(1, .sptr [(0, 2), (1, 520)]), (4, .int .i64 (i2)), (5, .int .i64 (j3))], [⟨true, .flat 2 (.ints .i64 av0)⟩, ⟨true, .flat 520 (.ints .u8 av1)⟩]⟩
def spec_l01Fault.sx1_0 (av0 : Nat → Int) (av1 : Nat → Int) (i2 : Int) : St := ⟨sl 50 [(1, .sptr [(0, 2), (1, 520)]), (4, .int .i64 (i2))], [⟨true, .flat 2 (.ints .i64 av0)⟩, ⟨true, .flat 520 (.ints .u8 av1)⟩]⟩
def spec_l01Fault.k2g {ρ : Type} (N : Nat) (L1 : St → Option ρ) (kv : XE → St → Option ρ) : XE → St → Option ρ := (blockK spec_l01Fault.kp 0 4 (blockK spec_l01Fault.kp 0 3 (seqK (xcode (E16 N) ents spec_l01Fault.kp 0 N (cB (cB (cL (cK (cB (cK (cA (cB (cL (cK (cB (cA (cB spec_l01Fault.bd))))))))))))) 2) (roundK spec_l01Fault.kp 0 2 L1 kv))))
theorem spec_l01Fault.k2_mix {ρ : Type} (N : Nat) (K : AV → Heap → Option ρ) (L0 : St → Option ρ) (L1 : St → Option ρ) : mixK (spec_l01Fault.fin N K .ret) (spec_l01Fault.k2g N L1 (spec_l01Fault.k1g N L0 (spec_l01Fault.k0 N K))) = (spec_l01Fault.k2g N L1 (spec_l01Fault.k1g N L0 (spec_l01Fault.k0 N K))) := by
  funext e s; cases e <;> kernel_rfl
def spec_l01Fault.st2 (av0 : Nat → Int) (av1 : Nat → Int) (i2 : Int) (j3 : Int) (k4 : Int) : St := ⟨sl 50 [(1, .sptr [(0, 2), (1, 520)]), (4, .int .i64 (i2)), (5, .int .i64 (j3)), (6, .int .i64 (k4))], [⟨true, .flat 2 (.ints .i64 av0)⟩, ⟨true, .flat 520 (.ints .u8 av1)⟩]⟩
def spec_l01Fault.sx2_0 (av0 : Nat → Int) (av1 : Nat → Int) (i2 : Int) (j3 : Int) : St := ⟨sl 50 [(1, .sptr [(0, 2), (1, 520)]), (4, .int .i64 (i2)), (5, .int .i64 (j3))], [⟨true, .flat 2 (.ints .i64 av0)⟩, ⟨true, .flat 520 (.ints .u8 av1)⟩]⟩
theorem spec_l01Fault.b2_gen {ρ : Type} (N : Nat) (K : AV → Heap → Option ρ) (L2 : St → Option ρ) (kv : XE → St → Option ρ) (av0 : Nat → Int) (av1 : Nat → Int) (i2 : Int) (j3 : Int) (k4 : Int) :
    xcode (E16 N) ents spec_l01Fault.kp 0 N (cL (cK (cB (cK (cA (cB (cL (cK (cB (cK (cA (cB (cL (cK (cB (cA (cB spec_l01Fault.bd))))))))))))))))) 4 (spec_l01Fault.st2 av0 av1 i2 j3 k4) (roundK spec_l01Fault.kp 0 4 L2 (mixK (spec_l01Fault.fin N K .ret) kv)) = (spec_l01Fault.b2 N (fun d0 d1 d2 d3 => K (.tup [.slice true 0 0 d0 (.exact d1) 1, .bool (d2)]) [⟨true, .flat 3 (.ints .i64 d3)⟩]) (fun d0 => K (.tup [.nils, .bool (d0)]) []) (fun k4 => L2 (spec_l01Fault.st2 av0 av1 i2 j3 k4)) (kv (.exit 4) (spec_l01Fault.sx2_0 av0 av1 i2 j3)) av0 av1 i2 j3 k4) := by kernel_rfl
theorem spec_l01Fault.b2_eq {ρ : Type} (N : Nat) (K : AV → Heap → Option ρ) (L0 : St → Option ρ) (L1 : St → Option ρ) (L2 : St → Option ρ) (av0 : Nat → Int) (av1 : Nat → Int) (i2 : Int) (j3 : Int) (k4 : Int) :
    xcode (E16 N) ents spec_l01Fault.kp 0 N (cL (cK (cB (cK (cA (cB (cL (cK (cB (cK (cA (cB (cL (cK (cB (cA (cB spec_l01Fault.bd))))))))))))))))) 4 (spec_l01Fault.st2 av0 av1 i2 j3 k4) (roundK spec_l01Fault.kp 0 4 L2 (spec_l01Fault.k2g N L1 (spec_l01Fault.k1g N L0 (spec_l01Fault.k0 N K)))) = (spec_l01Fault.b2 N (fun d0 d1 d2 d3 => K (.tup [.slice true 0 0 d0 (.exact d1) 1, .bool (d2)]) [⟨true, .flat 3 (.ints .i64 d3)⟩]) (fun d0 => K (.tup [.nils, .bool (d0)]) []) (fun k4 => L2 (spec_l01Fault.st2 av0 av1 i2 j3 k4)) ((spec_l01Fault.k2g N L1 (spec_l01Fault.k1g N L0 (spec_l01Fault.k0 N K))) (.exit 4) (spec_l01Fault.sx2_0 av0 av1 i2 j3)) av0 av1 i2 j3 k4) := by
  have h := spec_l01Fault.b2_gen N K L2 (spec_l01Fault.k2g N L1 (spec_l01Fault.k1g N L0 (spec_l01Fault.k0 N K))) av0 av1 i2 j3 k4
  rw [spec_l01Fault.k2_mix] at h
  exact h
theorem spec_l01Fault.a2_0_gen {ρ : Type} (N : Nat) (K : AV → Heap → Option ρ) (L1 : St → Option ρ) (kv : XE → St → Option ρ) (av0 : Nat → Int) (av1 : Nat → Int) (i2 : Int) (j3 : Int) :
    (spec_l01Fault.k2g N L1 (mixK (spec_l01Fault.fin N K .ret) kv)) (.exit 4) (spec_l01Fault.sx2_0 av0 av1 i2 j3) = (spec_l01Fault.a2_0 N (fun d0 d1 d2 d3 => K (.tup [.slice true 0 0 d0 (.exact d1) 1, .bool (d2)]) [⟨true, .flat 3 (.ints .i64 d3)⟩]) (fun d0 => K (.tup [.nils, .bool (d0)]) []) (fun j3 => L1 (spec_l01Fault.st1 av0 av1 i2 j3)) (kv (.exit 2) (spec_l01Fault.sx1_0 av0 av1 i2)) j3) := by kernel_rfl
theorem spec_l01Fault.a2_0_eq {ρ : Type} (N : Nat) (K : AV → Heap → Option ρ) (L0 : St → Option ρ) (L1 : St → Option ρ) (av0 : Nat → Int) (av1 : Nat → Int) (i2 : Int) (j3 : Int) :
    (spec_l01Fault.k2g N L1 (spec_l01Fault.k1g N L0 (spec_l01Fault.k0 N K))) (.exit 4) (spec_l01Fault.sx2_0 av0 av1 i2 j3) = (spec_l01Fault.a2_0 N (fun d0 d1 d2 d3 => K (.tup [.slice true 0 0 d0 (.exact d1) 1, .bool (d2)]) [⟨true, .flat 3 (.ints .i64 d3)⟩]) (fun d0 => K (.tup [.nils, .bool (d0)]) []) (fun j3 => L1 (spec_l01Fault.st1 av0 av1 i2 j3)) ((spec_l01Fault.k1g N L0 (spec_l01Fault.k0 N K)) (.exit 2) (spec_l01Fault.sx1_0 av0 av1 i2)) j3) := by
  have h := spec_l01Fault.a2_0_gen N K L1 (spec_l01Fault.k1g N L0 (spec_l01Fault.k0 N K)) av0 av1 i2 j3
  rw [spec_l01Fault.k1_mix] at h
  exact h
theorem spec_l01Fault.b1_gen {ρ : Type} (N : Nat) (K : AV → Heap → Option ρ) (L1 : St → Option ρ) (kv : XE → St → Option ρ) (av0 : Nat → Int) (av1 : Nat → Int) (i2 : Int) (j3 : Int) :
    xcode (E16 N) ents spec_l01Fault.kp 0 N (cL (cK (cB (cK (cA (cB (cL (cK (cB (cA (cB spec_l01Fault.bd))))))))))) 2 (spec_l01Fault.st1 av0 av1 i2 j3) (roundK spec_l01Fault.kp 0 2 L1 (mixK (spec_l01Fault.fin N K .ret) kv)) = (spec_l01Fault.b1 N (fun d0 d1 d2 d3 => K (.tup [.slice true 0 0 d0 (.exact d1) 1, .bool (d2)]) [⟨true, .flat 3 (.ints .i64 d3)⟩]) (fun d0 => K (.tup [.nils, .bool (d0)]) []) (fun k4 => xloop (xcode (E16 N) ents spec_l01Fault.kp 0 N (cL (cK (cB (cK (cA (cB (cL (cK (cB (cK (cA (cB (cL (cK (cB (cA (cB spec_l01Fault.bd))))))))))))))))) 4) spec_l01Fault.kp 0 4 N (spec_l01Fault.st2 av0 av1 i2 j3 k4) (spec_l01Fault.k2g N L1 (mixK (spec_l01Fault.fin N K .ret) kv))) (fun j3 => L1 (spec_l01Fault.st1 av0 av1 i2 j3)) (kv (.exit 2) (spec_l01Fault.sx1_0 av0 av1 i2)) av0 j3) := by kernel_rfl
theorem spec_l01Fault.b1_eq {ρ : Type} (N : Nat) (K : AV → Heap → Option ρ) (L0 : St → Option ρ) (L1 : St → Option ρ) (av0 : Nat → Int) (av1 : Nat → Int) (i2 : Int) (j3 : Int) :
    xcode (E16 N) ents spec_l01Fault.kp 0 N (cL (cK (cB (cK (cA (cB (cL (cK (cB (cA (cB spec_l01Fault.bd))))))))))) 2 (spec_l01Fault.st1 av0 av1 i2 j3) (roundK spec_l01Fault.kp 0 2 L1 (spec_l01Fault.k1g N L0 (spec_l01Fault.k0 N K))) = (spec_l01Fault.b1 N (fun d0 d1 d2 d3 => K (.tup [.slice true 0 0 d0 (.exact d1) 1, .bool (d2)]) [⟨true, .flat 3 (.ints .i64 d3)⟩]) (fun d0 => K (.tup [.nils, .bool (d0)]) []) (fun k4 => xloop (xcode (E16 N) ents spec_l01Fault.kp 0 N (cL (cK (cB (cK (cA (cB (cL (cK (cB (cK (cA (cB (cL (cK (cB (cA (cB spec_l01Fault.bd))))))))))))))))) 4) spec_l01Fault.kp 0 4 N (spec_l01Fault.st2 av0 av1 i2 j3 k4) (spec_l01Fault.k2g N L1 (spec_l01Fault.k1g N L0 (spec_l01Fault.k0 N K)))) (fun j3 => L1 (spec_l01Fault.st1 av0 av1 i2 j3)) ((spec_l01Fault.k1g N L0 (spec_l01Fault.k0 N K)) (.exit 2) (spec_l01Fault.sx1_0 av0 av1 i2)) av0 j3) := by
  have h := spec_l01Fault.b1_gen N K L1 (spec_l01Fault.k1g N L0 (spec_l01Fault.k0 N K)) av0 av1 i2 j3
  rw [spec_l01Fault.k1_mix] at h
  exact h
theorem spec_l01Fault.a1_0_gen {ρ : Type} (N : Nat) (K : AV → Heap → Option ρ) (L0 : St → Option ρ) (kv : XE → St → Option ρ) (av0 : Nat → Int) (av1 : Nat → Int) (i2 : Int) :
    (spec_l01Fault.k1g N L0 (mixK (spec_l01Fault.fin N K .ret) kv)) (.exit 2) (spec_l01Fault.sx1_0 av0 av1 i2) = (spec_l01Fault.a1_0 N (fun d0 d1 d2 d3 => K (.tup [.slice true 0 0 d0 (.exact d1) 1, .bool (d2)]) [⟨true, .flat 3 (.ints .i64 d3)⟩]) (fun d0 => K (.tup [.nils, .bool (d0)]) []) (fun i2 => L0 (spec_l01Fault.st0 av0 av1 i2)) (kv (.exit 0) (spec_l01Fault.sx0_0)) i2) := by kernel_rfl
theorem spec_l01Fault.a1_0_eq {ρ : Type} (N : Nat) (K : AV → Heap → Option ρ) (L0 : St → Option ρ) (av0 : Nat → Int) (av1 : Nat → Int) (i2 : Int) :
    (spec_l01Fault.k1g N L0 (spec_l01Fault.k0 N K)) (.exit 2) (spec_l01Fault.sx1_0 av0 av1 i2) = (spec_l01Fault.a1_0 N (fun d0 d1 d2 d3 => K (.tup [.slice true 0 0 d0 (.exact d1) 1, .bool (d2)]) [⟨true, .flat 3 (.ints .i64 d3)⟩]) (fun d0 => K (.tup [.nils, .bool (d0)]) []) (fun i2 => L0 (spec_l01Fault.st0 av0 av1 i2)) ((spec_l01Fault.k0 N K) (.exit 0) (spec_l01Fault.sx0_0)) i2) := by
  have h := spec_l01Fault.a1_0_gen N K L0 (spec_l01Fault.k0 N K) av0 av1 i2
  rw [spec_l01Fault.k0_mix] at h
  exact h
theorem spec_l01Fault.b0_gen {ρ : Type} (N : Nat) (K : AV → Heap → Option ρ) (L0 : St → Option ρ) (kv : XE → St → Option ρ) (av0 : Nat → Int) (av1 : Nat → Int) (i2 : Int) :
    xcode (E16 N) ents spec_l01Fault.kp 0 N (cL (cK (cB (cA (cB spec_l01Fault.bd))))) 0 (spec_l01Fault.st0 av0 av1 i2) (roundK spec_l01Fault.kp 0 0 L0 (mixK (spec_l01Fault.fin N K .ret) kv)) = (spec_l01Fault.b0 N (fun d0 d1 d2 d3 => K (.tup [.slice true 0 0 d0 (.exact d1) 1, .bool (d2)]) [⟨true, .flat 3 (.ints .i64 d3)⟩]) (fun d0 => K (.tup [.nils, .bool (d0)]) []) (fun j3 => xloop (xcode (E16 N) ents spec_l01Fault.kp 0 N (cL (cK (cB (cK (cA (cB (cL (cK (cB (cA (cB spec_l01Fault.bd))))))))))) 2) spec_l01Fault.kp 0 2 N (spec_l01Fault.st1 av0 av1 i2 j3) (spec_l01Fault.k1g N L0 (mixK (spec_l01Fault.fin N K .ret) kv))) (fun i2 => L0 (spec_l01Fault.st0 av0 av1 i2)) (kv (.exit 0) (spec_l01Fault.sx0_0)) av0 i2) := by kernel_rfl
theorem spec_l01Fault.b0_eq {ρ : Type} (N : Nat) (K : AV → Heap → Option ρ) (L0 : St → Option ρ) (av0 : Nat → Int) (av1 : Nat → Int) (i2 : Int) :
    xcode (E16 N) ents spec_l01Fault.kp 0 N (cL (cK (cB (cA (cB spec_l01Fault.bd))))) 0 (spec_l01Fault.st0 av0 av1 i2) (roundK spec_l01Fault.kp 0 0 L0 (spec_l01Fault.k0 N K)) = (spec_l01Fault.b0 N (fun d0 d1 d2 d3 => K (.tup [.slice true 0 0 d0 (.exact d1) 1, .bool (d2)]) [⟨true, .flat 3 (.ints .i64 d3)⟩]) (fun d0 => K (.tup [.nils, .bool (d0)]) []) (fun j3 => xloop (xcode (E16 N) ents spec_l01Fault.kp 0 N (cL (cK (cB (cK (cA (cB (cL (cK (cB (cA (cB spec_l01Fault.bd))))))))))) 2) spec_l01Fault.kp 0 2 N (spec_l01Fault.st1 av0 av1 i2 j3) (spec_l01Fault.k1g N L0 (spec_l01Fault.k0 N K))) (fun i2 => L0 (spec_l01Fault.st0 av0 av1 i2)) ((spec_l01Fault.k0 N K) (.exit 0) (spec_l01Fault.sx0_0)) av0 i2) := by
  have h := spec_l01Fault.b0_gen N K L0 (spec_l01Fault.k0 N K) av0 av1 i2
  rw [spec_l01Fault.k0_mix] at h
  exact h
theorem spec_l01Fault.a0_0_eq {ρ : Type} (N : Nat) (K : AV → Heap → Option ρ) :
    (spec_l01Fault.k0 N K) (.exit 0) (spec_l01Fault.sx0_0) = (spec_l01Fault.a0_0 N (fun d0 d1 d2 d3 => K (.tup [.slice true 0 0 d0 (.exact d1) 1, .bool (d2)]) [⟨true, .flat 3 (.ints .i64 d3)⟩]) (fun d0 => K (.tup [.nils, .bool (d0)]) [])) := by kernel_rfl
theorem spec_l01Fault.l2_eq {ρ : Type} (N : Nat) (K : AV → Heap → Option ρ) (L0 : St → Option ρ) (L1 : St → Option ρ) (av0 : Nat → Int) (av1 : Nat → Int) (i2 : Int) (j3 : Int) :
    ∀ (m : Nat) (k4 : Int), xloop (xcode (E16 N) ents spec_l01Fault.kp 0 N (cL (cK (cB (cK (cA (cB (cL (cK (cB (cK (cA (cB (cL (cK (cB (cA (cB spec_l01Fault.bd))))))))))))))))) 4) spec_l01Fault.kp 0 4 m (spec_l01Fault.st2 av0 av1 i2 j3 k4) (spec_l01Fault.k2g N L1 (spec_l01Fault.k1g N L0 (spec_l01Fault.k0 N K))) = (spec_l01Fault.l2 N (fun d0 d1 d2 d3 => K (.tup [.slice true 0 0 d0 (.exact d1) 1, .bool (d2)]) [⟨true, .flat 3 (.ints .i64 d3)⟩]) (fun d0 => K (.tup [.nils, .bool (d0)]) []) av0 av1 i2 j3 ((spec_l01Fault.k2g N L1 (spec_l01Fault.k1g N L0 (spec_l01Fault.k0 N K))) (.exit 4) (spec_l01Fault.sx2_0 av0 av1 i2 j3)) m k4) := by
  intro m
  induction m with
  | zero => intros; rfl
  | succ m ih =>
    intro k4
    refine (spec_l01Fault.b2_eq N K L0 L1 (fun s => xloop (xcode (E16 N) ents spec_l01Fault.kp 0 N (cL (cK (cB (cK (cA (cB (cL (cK (cB (cK (cA (cB (cL (cK (cB (cA (cB spec_l01Fault.bd))))))))))))))))) 4) spec_l01Fault.kp 0 4 m s (spec_l01Fault.k2g N L1 (spec_l01Fault.k1g N L0 (spec_l01Fault.k0 N K)))) av0 av1 i2 j3 k4).trans ?_
    simp only [ih]
    kernel_rfl
theorem spec_l01Fault.l1_eq {ρ : Type} (N : Nat) (K : AV → Heap → Option ρ) (L0 : St → Option ρ) (av0 : Nat → Int) (av1 : Nat → Int) (i2 : Int) :
    ∀ (m : Nat) (j3 : Int), xloop (xcode (E16 N) ents spec_l01Fault.kp 0 N (cL (cK (cB (cK (cA (cB (cL (cK (cB (cA (cB spec_l01Fault.bd))))))))))) 2) spec_l01Fault.kp 0 2 m (spec_l01Fault.st1 av0 av1 i2 j3) (spec_l01Fault.k1g N L0 (spec_l01Fault.k0 N K)) = (spec_l01Fault.l1 N (fun d0 d1 d2 d3 => K (.tup [.slice true 0 0 d0 (.exact d1) 1, .bool (d2)]) [⟨true, .flat 3 (.ints .i64 d3)⟩]) (fun d0 => K (.tup [.nils, .bool (d0)]) []) av0 av1 i2 ((spec_l01Fault.k1g N L0 (spec_l01Fault.k0 N K)) (.exit 2) (spec_l01Fault.sx1_0 av0 av1 i2)) m j3) := by
  intro m
  induction m with
  | zero => intros; rfl
  | succ m ih =>
    intro j3
    refine (spec_l01Fault.b1_eq N K L0 (fun s => xloop (xcode (E16 N) ents spec_l01Fault.kp 0 N (cL (cK (cB (cK (cA (cB (cL (cK (cB (cA (cB spec_l01Fault.bd))))))))))) 2) spec_l01Fault.kp 0 2 m s (spec_l01Fault.k1g N L0 (spec_l01Fault.k0 N K))) av0 av1 i2 j3).trans ?_
    simp only [ih, spec_l01Fault.l2_eq, spec_l01Fault.a2_0_eq]
    kernel_rfl
theorem spec_l01Fault.l0_eq {ρ : Type} (N : Nat) (K : AV → Heap → Option ρ) (av0 : Nat → Int) (av1 : Nat → Int) :
    ∀ (m : Nat) (i2 : Int), xloop (xcode (E16 N) ents spec_l01Fault.kp 0 N (cL (cK (cB (cA (cB spec_l01Fault.bd))))) 0) spec_l01Fault.kp 0 0 m (spec_l01Fault.st0 av0 av1 i2) (spec_l01Fault.k0 N K) = (spec_l01Fault.l0 N (fun d0 d1 d2 d3 => K (.tup [.slice true 0 0 d0 (.exact d1) 1, .bool (d2)]) [⟨true, .flat 3 (.ints .i64 d3)⟩]) (fun d0 => K (.tup [.nils, .bool (d0)]) []) av0 av1 ((spec_l01Fault.k0 N K) (.exit 0) (spec_l01Fault.sx0_0)) m i2) := by
  intro m
  induction m with
  | zero => intros; rfl
  | succ m ih =>
    intro i2
    refine (spec_l01Fault.b0_eq N K (fun s => xloop (xcode (E16 N) ents spec_l01Fault.kp 0 N (cL (cK (cB (cA (cB spec_l01Fault.bd))))) 0) spec_l01Fault.kp 0 0 m s (spec_l01Fault.k0 N K)) av0 av1 i2).trans ?_
    simp only [ih, spec_l01Fault.l1_eq, spec_l01Fault.a1_0_eq]
    kernel_rfl
theorem spec_l01Fault.s_eq {ρ : Type} (N : Nat) (K : AV → Heap → Option ρ) (av0 : Nat → Int) (av1 : Nat → Int) :
    xbody (E16 N) ents spec_l01Fault.kp N Try.f55 spec_l01Fault.bd [.agg [⟨.i64, 2, av0⟩, ⟨.u8, 520, av1⟩]] [] K = (spec_l01Fault.s N (fun d0 d1 d2 d3 => K (.tup [.slice true 0 0 d0 (.exact d1) 1, .bool (d2)]) [⟨true, .flat 3 (.ints .i64 d3)⟩]) (fun d0 => K (.tup [.nils, .bool (d0)]) []) (fun i2 => xloop (xcode (E16 N) ents spec_l01Fault.kp 0 N (cL (cK (cB (cA (cB spec_l01Fault.bd))))) 0) spec_l01Fault.kp 0 0 N (spec_l01Fault.st0 av0 av1 i2) (spec_l01Fault.k0 N K))) := by kernel_rfl
theorem spec_l01Fault.eq {ρ : Type} (N : Nat) (K : AV → Heap → Option ρ) (av0 : Nat → Int) (av1 : Nat → Int) :
    xbody (E16 N) ents spec_l01Fault.kp N Try.f55 spec_l01Fault.bd [.agg [⟨.i64, 2, av0⟩, ⟨.u8, 520, av1⟩]] [] K = (spec_l01Fault N (fun d0 d1 d2 d3 => K (.tup [.slice true 0 0 d0 (.exact d1) 1, .bool (d2)]) [⟨true, .flat 3 (.ints .i64 d3)⟩]) (fun d0 => K (.tup [.nils, .bool (d0)]) []) av0 av1) := by
  refine (spec_l01Fault.s_eq N K av0 av1).trans ?_
  simp only [spec_l01Fault.l0_eq, spec_l01Fault.a0_0_eq]
  kernel_rfl
def spec_l01Fault.en (N : Nat) (ρ : Type) : List AV → Heap → (AV → Heap → Option ρ) → Option ρ
  | [.agg [⟨.i64, 2, av0⟩, ⟨.u8, 520, av1⟩]], [], K => (spec_l01Fault N (fun d0 d1 d2 d3 => K (.tup [.slice true 0 0 d0 (.exact d1) 1, .bool (d2)]) [⟨true, .flat 3 (.ints .i64 d3)⟩]) (fun d0 => K (.tup [.nils, .bool (d0)]) []) av0 av1)
  | _, _, _ => none
theorem spec_l01Fault.en_ok (N : Nat) (hE : EnvOk (E16 N) ents) (ρ : Type) (args : List AV) (sh : Heap) (K : AV → Heap → Option ρ) (r : ρ) (h : spec_l01Fault.en N ρ args sh K = some r) : ∃ v sh', K v sh' = some r ∧ FnOk (E16 N).P 55 args sh v sh' := by
  unfold spec_l01Fault.en at h
  split at h
  · exact fn_ok hE (kp := spec_l01Fault.kp) (N := N) Try.func55 (c := spec_l01Fault.bd) (by kernel_rfl) ((spec_l01Fault.eq N _ _ _).trans h)
  · cases h
def E17 (N : Nat) : Env := (E16 N).add 55 (spec_l01Fault.en N)
theorem E17_ok (N : Nat) : EnvOk (E17 N) ents := Env.add_ok (E16_ok N) (spec_l01Fault.en_ok N (E16_ok N))
def spec_l01Is.kp : Keeps := ⟨[(0, [1, 3], [], [])], [(0, [1], [], [])], []⟩
def spec_l01Is.bd : Code := bodyOf Try.f48
def spec_l01Is.fin {ρ : Type} (N : Nat) (K : AV → Heap → Option ρ) : XE → St → Option ρ := finK (E17 N) spec_l01Is.kp.fins Try.f48 [] K
def spec_l01Is.k0 {ρ : Type} (N : Nat) (K : AV → Heap → Option ρ) : XE → St → Option ρ := (blockK spec_l01Is.kp 0 0 (seqK (xcode (E17 N) ents spec_l01Is.kp 0 N (cB (cB (cB spec_l01Is.bd))) 0) (spec_l01Is.fin N K)))
theorem spec_l01Is.k0_mix {ρ : Type} (N : Nat) (K : AV → Heap → Option ρ) : mixK (spec_l01Is.fin N K .ret) (spec_l01Is.k0 N K) = (spec_l01Is.k0 N K) := by
  funext e s; cases e <;> kernel_rfl
def spec_l01Is.st0 (av0 : Nat → Int) (av1 : Nat → Int) (i3 : Int) : St := ⟨sl 42 [(1, .sptr [(0, 2), (1, 520)]), (3, .int .i64 (i3))], [⟨true, .flat 2 (.ints .i64 av0)⟩, ⟨true, .flat 520 (.ints .u8 av1)⟩]⟩
def spec_l01Is.sx0_0 (av0 : Nat → Int) (av1 : Nat → Int) : St := ⟨sl 42 [(1, .sptr [(0, 2), (1, 520)])], [⟨true, .flat 2 (.ints .i64 av0)⟩, ⟨true, .flat 520 (.ints .u8 av1)⟩]⟩
theorem spec_l01Is.b0_gen {ρ : Type} (N : Nat) (K : AV → Heap → Option ρ) (L0 : St → Option ρ) (kv : XE → St → Option ρ) (av0 : Nat → Int) (av1 : Nat → Int) (i3 : Int) :
    xcode (E17 N) ents spec_l01Is.kp 0 N (cL (cK (cB (cA (cB (cB spec_l01Is.bd)))))) 0 (spec_l01Is.st0 av0 av1 i3) (roundK spec_l01Is.kp 0 0 L0 (mixK (spec_l01Is.fin N K .ret) kv)) = (spec_l01Is.b0 N (fun d0 => K (.bool (d0)) []) (fun i3 => L0 (spec_l01Is.st0 av0 av1 i3)) (kv (.exit 0) (spec_l01Is.sx0_0 av0 av1)) av0 av1 i3) := by kernel_rfl
theorem spec_l01Is.b0_eq {ρ : Type} (N : Nat) (K : AV → Heap → Option ρ) (L0 : St → Option ρ) (av0 : Nat → Int) (av1 : Nat → Int) (i3 : Int) :
    xcode (E17 N) ents spec_l01Is.kp 0 N (cL (cK (cB (cA (cB (cB spec_l01Is.bd)))))) 0 (spec_l01Is.st0 av0 av1 i3) (roundK spec_l01Is.kp 0 0 L0 (spec_l01Is.k0 N K)) = (spec_l01Is.b0 N (fun d0 => K (.bool (d0)) []) (fun i3 => L0 (spec_l01Is.st0 av0 av1 i3)) ((spec_l01Is.k0 N K) (.exit 0) (spec_l01Is.sx0_0 av0 av1)) av0 av1 i3) := by
  have h := spec_l01Is.b0_gen N K L0 (spec_l01Is.k0 N K) av0 av1 i3
  rw [spec_l01Is.k0_mix] at h
  exact h
theorem spec_l01Is.a0_0_eq {ρ : Type} (N : Nat) (K : AV → Heap → Option ρ) (av0 : Nat → Int) (av1 : Nat → Int) :
    (spec_l01Is.k0 N K) (.exit 0) (spec_l01Is.sx0_0 av0 av1) = (spec_l01Is.a0_0 N (fun d0 => K (.bool (d0)) []) av0 av1) := by kernel_rfl
theorem spec_l01Is.l0_eq {ρ : Type} (N : Nat) (K : AV → Heap → Option ρ) (av0 : Nat → Int) (av1 : Nat → Int) :
    ∀ (m : Nat) (i3 : Int), xloop (xcode (E17 N) ents spec_l01Is.kp 0 N (cL (cK (cB (cA (cB (cB spec_l01Is.bd)))))) 0) spec_l01Is.kp 0 0 m (spec_l01Is.st0 av0 av1 i3) (spec_l01Is.k0 N K) = (spec_l01Is.l0 N (fun d0 => K (.bool (d0)) []) av0 av1 ((spec_l01Is.k0 N K) (.exit 0) (spec_l01Is.sx0_0 av0 av1)) m i3) := by
  intro m
  induction m with
  | zero => intros; rfl
  | succ m ih =>
    intro i3
    refine (spec_l01Is.b0_eq N K (fun s => xloop (xcode (E17 N) ents spec_l01Is.kp 0 N (cL (cK (cB (cA (cB (cB spec_l01Is.bd)))))) 0) spec_l01Is.kp 0 0 m s (spec_l01Is.k0 N K)) av0 av1 i3).trans ?_
    simp only [ih]
    kernel_rfl
theorem spec_l01Is.s_eq {ρ : Type} (N : Nat) (K : AV → Heap → Option ρ) (av0 : Nat → Int) (av1 : Nat → Int) :
    xbody (E17 N) ents spec_l01Is.kp N Try.f48 spec_l01Is.bd [.agg [⟨.i64, 2, av0⟩, ⟨.u8, 520, av1⟩]] [] K = (spec_l01Is.s N (fun d0 => K (.bool (d0)) []) (fun i3 => xloop (xcode (E17 N) ents spec_l01Is.kp 0 N (cL (cK (cB (cA (cB (cB spec_l01Is.bd)))))) 0) spec_l01Is.kp 0 0 N (spec_l01Is.st0 av0 av1 i3) (spec_l01Is.k0 N K)) av0 av1) := by kernel_rfl
theorem spec_l01Is.eq {ρ : Type} (N : Nat) (K : AV → Heap → Option ρ) (av0 : Nat → Int) (av1 : Nat → Int) :
    xbody (E17 N) ents spec_l01Is.kp N Try.f48 spec_l01Is.bd [.agg [⟨.i64, 2, av0⟩, ⟨.u8, 520, av1⟩]] [] K = (spec_l01Is N (fun d0 => K (.bool (d0)) []) av0 av1) := by
  refine (spec_l01Is.s_eq N K av0 av1).trans ?_
  simp only [spec_l01Is.l0_eq, spec_l01Is.a0_0_eq]
  kernel_rfl
def spec_l01Is.en (N : Nat) (ρ : Type) : List AV → Heap → (AV → Heap → Option ρ) → Option ρ
  | [.agg [⟨.i64, 2, av0⟩, ⟨.u8, 520, av1⟩]], [], K => (spec_l01Is N (fun d0 => K (.bool (d0)) []) av0 av1)
  | _, _, _ => none
theorem spec_l01Is.en_ok (N : Nat) (hE : EnvOk (E17 N) ents) (ρ : Type) (args : List AV) (sh : Heap) (K : AV → Heap → Option ρ) (r : ρ) (h : spec_l01Is.en N ρ args sh K = some r) : ∃ v sh', K v sh' = some r ∧ FnOk (E17 N).P 48 args sh v sh' := by
  unfold spec_l01Is.en at h
  split at h
  · exact fn_ok hE (kp := spec_l01Is.kp) (N := N) Try.func48 (c := spec_l01Is.bd) (by kernel_rfl) ((spec_l01Is.eq N _ _ _).trans h)
  · cases h
def E18 (N : Nat) : Env := (E17 N).add 48 (spec_l01Is.en N)
theorem E18_ok (N : Nat) : EnvOk (E18 N) ents := Env.add_ok (E17_ok N) (spec_l01Is.en_ok N (E17_ok N))
def spec_l01Whole.kp : Keeps := ⟨[(0, [0, 3, 4], [], [])], [(0, [3], [], [])], []⟩
def spec_l01Whole.bd : Code := bodyOf Try.f76
def spec_l01Whole.fin {ρ : Type} (N : Nat) (K : AV → Heap → Option ρ) : XE → St → Option ρ := finK (E18 N) spec_l01Whole.kp.fins Try.f76 [] K
def spec_l01Whole.k0 {ρ : Type} (N : Nat) (K : AV → Heap → Option ρ) : XE → St → Option ρ := (blockK spec_l01Whole.kp 0 0 (seqK (xcode (E18 N) ents spec_l01Whole.kp 0 N (cB (cB (cB spec_l01Whole.bd))) 0) (spec_l01Whole.fin N K)))
theorem spec_l01Whole.k0_mix {ρ : Type} (N : Nat) (K : AV → Heap → Option ρ) : mixK (spec_l01Whole.fin N K .ret) (spec_l01Whole.k0 N K) = (spec_l01Whole.k0 N K) := by
  funext e s; cases e <;> kernel_rfl
def spec_l01Whole.st0 (nv0 : Int) (outv1 : Nat) (i2 : Int) (gv3 : Nat → Int) : St := ⟨sl 17 [(0, .int .i64 (nv0)), (3, .slice true 0 0 outv1 .whole 8), (4, .int .i64 (i2))], [⟨true, .flat 0 (.ints .u8 gv3)⟩]⟩
def spec_l01Whole.sx0_0 (ov5 : Nat) (ov6 : Nat → Int) : St := ⟨sl 17 [(3, .slice true 0 0 ov5 .whole 8)], [⟨true, .flat 0 (.ints .u8 ov6)⟩]⟩
theorem spec_l01Whole.b0_gen {ρ : Type} (N : Nat) (K : AV → Heap → Option ρ) (L0 : St → Option ρ) (kv : XE → St → Option ρ) (nv0 : Int) (outv1 : Nat) (i2 : Int) (gv3 : Nat → Int) :
    xcode (E18 N) ents spec_l01Whole.kp 0 N (cL (cK (cB (cA (cB (cB spec_l01Whole.bd)))))) 0 (spec_l01Whole.st0 nv0 outv1 i2 gv3) (roundK spec_l01Whole.kp 0 0 L0 (mixK (spec_l01Whole.fin N K .ret) kv)) = (spec_l01Whole.b0 N (fun d0 d1 => K (.slice true 0 0 d0 .whole 8) [⟨true, .flat 0 (.ints .u8 d1)⟩]) (fun outv1 i2 gv3 => L0 (spec_l01Whole.st0 nv0 outv1 i2 gv3)) (fun ov5 ov6 => kv (.exit 0) (spec_l01Whole.sx0_0 ov5 ov6)) nv0 outv1 i2 gv3) := by kernel_rfl
theorem spec_l01Whole.b0_eq {ρ : Type} (N : Nat) (K : AV → Heap → Option ρ) (L0 : St → Option ρ) (nv0 : Int) (outv1 : Nat) (i2 : Int) (gv3 : Nat → Int) :
    xcode (E18 N) ents spec_l01Whole.kp 0 N (cL (cK (cB (cA (cB (cB spec_l01Whole.bd)))))) 0 (spec_l01Whole.st0 nv0 outv1 i2 gv3) (roundK spec_l01Whole.kp 0 0 L0 (spec_l01Whole.k0 N K)) = (spec_l01Whole.b0 N (fun d0 d1 => K (.slice true 0 0 d0 .whole 8) [⟨true, .flat 0 (.ints .u8 d1)⟩]) (fun outv1 i2 gv3 => L0 (spec_l01Whole.st0 nv0 outv1 i2 gv3)) (fun ov5 ov6 => (spec_l01Whole.k0 N K) (.exit 0) (spec_l01Whole.sx0_0 ov5 ov6)) nv0 outv1 i2 gv3) := by
  have h := spec_l01Whole.b0_gen N K L0 (spec_l01Whole.k0 N K) nv0 outv1 i2 gv3
  rw [spec_l01Whole.k0_mix] at h
  exact h
theorem spec_l01Whole.a0_0_eq {ρ : Type} (N : Nat) (K : AV → Heap → Option ρ) (ov5 : Nat) (ov6 : Nat → Int) :
    (spec_l01Whole.k0 N K) (.exit 0) (spec_l01Whole.sx0_0 ov5 ov6) = (spec_l01Whole.a0_0 N (fun d0 d1 => K (.slice true 0 0 d0 .whole 8) [⟨true, .flat 0 (.ints .u8 d1)⟩]) ov5 ov6) := by kernel_rfl
theorem spec_l01Whole.l0_eq {ρ : Type} (N : Nat) (K : AV → Heap → Option ρ) (nv0 : Int) :
    ∀ (m : Nat) (outv1 : Nat) (i2 : Int) (gv3 : Nat → Int), xloop (xcode (E18 N) ents spec_l01Whole.kp 0 N (cL (cK (cB (cA (cB (cB spec_l01Whole.bd)))))) 0) spec_l01Whole.kp 0 0 m (spec_l01Whole.st0 nv0 outv1 i2 gv3) (spec_l01Whole.k0 N K) = (spec_l01Whole.l0 N (fun d0 d1 => K (.slice true 0 0 d0 .whole 8) [⟨true, .flat 0 (.ints .u8 d1)⟩]) nv0 (fun ov5 ov6 => (spec_l01Whole.k0 N K) (.exit 0) (spec_l01Whole.sx0_0 ov5 ov6)) m outv1 i2 gv3) := by
  intro m
  induction m with
  | zero => intros; rfl
  | succ m ih =>
    intro outv1 i2 gv3
    refine (spec_l01Whole.b0_eq N K (fun s => xloop (xcode (E18 N) ents spec_l01Whole.kp 0 N (cL (cK (cB (cA (cB (cB spec_l01Whole.bd)))))) 0) spec_l01Whole.kp 0 0 m s (spec_l01Whole.k0 N K)) nv0 outv1 i2 gv3).trans ?_
    simp only [ih]
    kernel_rfl
theorem spec_l01Whole.s_eq {ρ : Type} (N : Nat) (K : AV → Heap → Option ρ) (nv0 : Int) :
    xbody (E18 N) ents spec_l01Whole.kp N Try.f76 spec_l01Whole.bd [.int .i64 (nv0)] [] K = (spec_l01Whole.s N (fun d0 d1 => K (.slice true 0 0 d0 .whole 8) [⟨true, .flat 0 (.ints .u8 d1)⟩]) (fun outv1 i2 gv3 => xloop (xcode (E18 N) ents spec_l01Whole.kp 0 N (cL (cK (cB (cA (cB (cB spec_l01Whole.bd)))))) 0) spec_l01Whole.kp 0 0 N (spec_l01Whole.st0 nv0 outv1 i2 gv3) (spec_l01Whole.k0 N K))) := by kernel_rfl
theorem spec_l01Whole.eq {ρ : Type} (N : Nat) (K : AV → Heap → Option ρ) (nv0 : Int) :
    xbody (E18 N) ents spec_l01Whole.kp N Try.f76 spec_l01Whole.bd [.int .i64 (nv0)] [] K = (spec_l01Whole N (fun d0 d1 => K (.slice true 0 0 d0 .whole 8) [⟨true, .flat 0 (.ints .u8 d1)⟩]) nv0) := by
  refine (spec_l01Whole.s_eq N K nv0).trans ?_
  simp only [spec_l01Whole.l0_eq, spec_l01Whole.a0_0_eq]
  kernel_rfl
def spec_l01Whole.en (N : Nat) (ρ : Type) : List AV → Heap → (AV → Heap → Option ρ) → Option ρ
  | [.int .i64 (nv0)], [], K => (spec_l01Whole N (fun d0 d1 => K (.slice true 0 0 d0 .whole 8) [⟨true, .flat 0 (.ints .u8 d1)⟩]) nv0)
  | _, _, _ => none
theorem spec_l01Whole.en_ok (N : Nat) (hE : EnvOk (E18 N) ents) (ρ : Type) (args : List AV) (sh : Heap) (K : AV → Heap → Option ρ) (r : ρ) (h : spec_l01Whole.en N ρ args sh K = some r) : ∃ v sh', K v sh' = some r ∧ FnOk (E18 N).P 76 args sh v sh' := by
  unfold spec_l01Whole.en at h
  split at h
  · exact fn_ok hE (kp := spec_l01Whole.kp) (N := N) Try.func76 (c := spec_l01Whole.bd) (by kernel_rfl) ((spec_l01Whole.eq N _ _).trans h)
  · cases h
def E19 (N : Nat) : Env := (E18 N).add 76 (spec_l01Whole.en N)
theorem E19_ok (N : Nat) : EnvOk (E19 N) ents := Env.add_ok (E18_ok N) (spec_l01Whole.en_ok N (E18_ok N))
def spec_l01Zero.kp : Keeps := ⟨[], [], []⟩
def spec_l01Zero.bd : Code := bodyOf Try.f108
def spec_l01Zero.fin {ρ : Type} (N : Nat) (K : AV → Heap → Option ρ) : XE → St → Option ρ := finK (E19 N) spec_l01Zero.kp.fins Try.f108 [] K
theorem spec_l01Zero.eq {ρ : Type} (N : Nat) (K : AV → Heap → Option ρ) (v0 : Nat → Int) :
    xbody (E19 N) ents spec_l01Zero.kp N Try.f108 spec_l01Zero.bd [.agg [⟨.u8, 8, v0⟩]] [] K = (spec_l01Zero N (fun d0 => K (.bool (d0)) []) v0) := by kernel_rfl
def spec_l01Zero.en (N : Nat) (ρ : Type) : List AV → Heap → (AV → Heap → Option ρ) → Option ρ
  | [.agg [⟨.u8, 8, v0⟩]], [], K => (spec_l01Zero N (fun d0 => K (.bool (d0)) []) v0)
  | _, _, _ => none
theorem spec_l01Zero.en_ok (N : Nat) (hE : EnvOk (E19 N) ents) (ρ : Type) (args : List AV) (sh : Heap) (K : AV → Heap → Option ρ) (r : ρ) (h : spec_l01Zero.en N ρ args sh K = some r) : ∃ v sh', K v sh' = some r ∧ FnOk (E19 N).P 108 args sh v sh' := by
  unfold spec_l01Zero.en at h
  split at h
  · exact fn_ok hE (kp := spec_l01Zero.kp) (N := N) Try.func108 (c := spec_l01Zero.bd) (by kernel_rfl) ((spec_l01Zero.eq N _ _).trans h)
  · cases h
def E20 (N : Nat) : Env := (E19 N).add 108 (spec_l01Zero.en N)
theorem E20_ok (N : Nat) : EnvOk (E20 N) ents := Env.add_ok (E19_ok N) (spec_l01Zero.en_ok N (E19_ok N))
def spec_l01First.kp : Keeps := ⟨[(0, [1, 3], [], [])], [(0, [3], [], [])], []⟩
def spec_l01First.bd : Code := bodyOf Try.f107
def spec_l01First.fin {ρ : Type} (N : Nat) (K : AV → Heap → Option ρ) : XE → St → Option ρ := finK (E20 N) spec_l01First.kp.fins Try.f107 [] K
def spec_l01First.k0 {ρ : Type} (N : Nat) (K : AV → Heap → Option ρ) : XE → St → Option ρ := (blockK spec_l01First.kp 0 0 (seqK (xcode (E20 N) ents spec_l01First.kp 0 N (cB (cB (cB spec_l01First.bd))) 0) (spec_l01First.fin N K)))
theorem spec_l01First.k0_mix {ρ : Type} (N : Nat) (K : AV → Heap → Option ρ) : mixK (spec_l01First.fin N K .ret) (spec_l01First.k0 N K) = (spec_l01First.k0 N K) := by
  funext e s; cases e <;> kernel_rfl
def spec_l01First.st0 (v0 : Nat → Int) (at1 : Int) : St := ⟨sl 15 [(1, .sptr [(0, 8)]), (3, .int .i64 (at1))], [⟨true, .flat 8 (.ints .u8 v0)⟩]⟩
def spec_l01First.sx0_0 (ov2 : Int) : St := ⟨sl 15 [(3, .int .i64 (ov2))], []⟩
theorem spec_l01First.b0_gen {ρ : Type} (N : Nat) (K : AV → Heap → Option ρ) (L0 : St → Option ρ) (kv : XE → St → Option ρ) (v0 : Nat → Int) (at1 : Int) :
    xcode (E20 N) ents spec_l01First.kp 0 N (cL (cK (cA (cB (cB spec_l01First.bd))))) 0 (spec_l01First.st0 v0 at1) (roundK spec_l01First.kp 0 0 L0 (mixK (spec_l01First.fin N K .ret) kv)) = (spec_l01First.b0 N (fun d0 => K (.int .i64 (d0)) []) (fun at1 => L0 (spec_l01First.st0 v0 at1)) (fun ov2 => kv (.exit 0) (spec_l01First.sx0_0 ov2)) v0 at1) := by kernel_rfl
theorem spec_l01First.b0_eq {ρ : Type} (N : Nat) (K : AV → Heap → Option ρ) (L0 : St → Option ρ) (v0 : Nat → Int) (at1 : Int) :
    xcode (E20 N) ents spec_l01First.kp 0 N (cL (cK (cA (cB (cB spec_l01First.bd))))) 0 (spec_l01First.st0 v0 at1) (roundK spec_l01First.kp 0 0 L0 (spec_l01First.k0 N K)) = (spec_l01First.b0 N (fun d0 => K (.int .i64 (d0)) []) (fun at1 => L0 (spec_l01First.st0 v0 at1)) (fun ov2 => (spec_l01First.k0 N K) (.exit 0) (spec_l01First.sx0_0 ov2)) v0 at1) := by
  have h := spec_l01First.b0_gen N K L0 (spec_l01First.k0 N K) v0 at1
  rw [spec_l01First.k0_mix] at h
  exact h
theorem spec_l01First.a0_0_eq {ρ : Type} (N : Nat) (K : AV → Heap → Option ρ) (ov2 : Int) :
    (spec_l01First.k0 N K) (.exit 0) (spec_l01First.sx0_0 ov2) = (spec_l01First.a0_0 N (fun d0 => K (.int .i64 (d0)) []) ov2) := by kernel_rfl
theorem spec_l01First.l0_eq {ρ : Type} (N : Nat) (K : AV → Heap → Option ρ) (v0 : Nat → Int) :
    ∀ (m : Nat) (at1 : Int), xloop (xcode (E20 N) ents spec_l01First.kp 0 N (cL (cK (cA (cB (cB spec_l01First.bd))))) 0) spec_l01First.kp 0 0 m (spec_l01First.st0 v0 at1) (spec_l01First.k0 N K) = (spec_l01First.l0 N (fun d0 => K (.int .i64 (d0)) []) v0 (fun ov2 => (spec_l01First.k0 N K) (.exit 0) (spec_l01First.sx0_0 ov2)) m at1) := by
  intro m
  induction m with
  | zero => intros; rfl
  | succ m ih =>
    intro at1
    refine (spec_l01First.b0_eq N K (fun s => xloop (xcode (E20 N) ents spec_l01First.kp 0 N (cL (cK (cA (cB (cB spec_l01First.bd))))) 0) spec_l01First.kp 0 0 m s (spec_l01First.k0 N K)) v0 at1).trans ?_
    simp only [ih]
    kernel_rfl
theorem spec_l01First.s_eq {ρ : Type} (N : Nat) (K : AV → Heap → Option ρ) (v0 : Nat → Int) :
    xbody (E20 N) ents spec_l01First.kp N Try.f107 spec_l01First.bd [.agg [⟨.u8, 8, v0⟩]] [] K = (spec_l01First.s N (fun d0 => K (.int .i64 (d0)) []) (fun at1 => xloop (xcode (E20 N) ents spec_l01First.kp 0 N (cL (cK (cA (cB (cB spec_l01First.bd))))) 0) spec_l01First.kp 0 0 N (spec_l01First.st0 v0 at1) (spec_l01First.k0 N K))) := by kernel_rfl
theorem spec_l01First.eq {ρ : Type} (N : Nat) (K : AV → Heap → Option ρ) (v0 : Nat → Int) :
    xbody (E20 N) ents spec_l01First.kp N Try.f107 spec_l01First.bd [.agg [⟨.u8, 8, v0⟩]] [] K = (spec_l01First N (fun d0 => K (.int .i64 (d0)) []) v0) := by
  refine (spec_l01First.s_eq N K v0).trans ?_
  simp only [spec_l01First.l0_eq, spec_l01First.a0_0_eq]
  kernel_rfl
def spec_l01First.en (N : Nat) (ρ : Type) : List AV → Heap → (AV → Heap → Option ρ) → Option ρ
  | [.agg [⟨.u8, 8, v0⟩]], [], K => (spec_l01First N (fun d0 => K (.int .i64 (d0)) []) v0)
  | _, _, _ => none
theorem spec_l01First.en_ok (N : Nat) (hE : EnvOk (E20 N) ents) (ρ : Type) (args : List AV) (sh : Heap) (K : AV → Heap → Option ρ) (r : ρ) (h : spec_l01First.en N ρ args sh K = some r) : ∃ v sh', K v sh' = some r ∧ FnOk (E20 N).P 107 args sh v sh' := by
  unfold spec_l01First.en at h
  split at h
  · exact fn_ok hE (kp := spec_l01First.kp) (N := N) Try.func107 (c := spec_l01First.bd) (by kernel_rfl) ((spec_l01First.eq N _ _).trans h)
  · cases h
def E21 (N : Nat) : Env := (E20 N).add 107 (spec_l01First.en N)
theorem E21_ok (N : Nat) : EnvOk (E21 N) ents := Env.add_ok (E20_ok N) (spec_l01First.en_ok N (E20_ok N))
def spec_l01Inverse.kp : Keeps := ⟨[(0, [0, 1, 5], [], [])], [(0, [], [], [])], []⟩
def spec_l01Inverse.bd : Code := bodyOf Try.f109
def spec_l01Inverse.fin {ρ : Type} (N : Nat) (K : AV → Heap → Option ρ) : XE → St → Option ρ := finK (E21 N) spec_l01Inverse.kp.fins Try.f109 [] K
def spec_l01Inverse.k0 {ρ : Type} (N : Nat) (K : AV → Heap → Option ρ) : XE → St → Option ρ := (blockK spec_l01Inverse.kp 0 0 (seqK (xcode (E21 N) ents spec_l01Inverse.kp 0 N (cB (cB spec_l01Inverse.bd)) 0) (spec_l01Inverse.fin N K)))
theorem spec_l01Inverse.k0_mix {ρ : Type} (N : Nat) (K : AV → Heap → Option ρ) : mixK (spec_l01Inverse.fin N K .ret) (spec_l01Inverse.k0 N K) = (spec_l01Inverse.k0 N K) := by
  funext e s; cases e <;> kernel_rfl
def spec_l01Inverse.st0 (p0 : Int) (x1 : Int) (k2 : Int) : St := ⟨sl 20 [(0, .int .i64 (p0)), (1, .int .u8 (x1)), (5, .int .i64 (k2))], []⟩
def spec_l01Inverse.sx0_0 : St := ⟨sl 20 [], []⟩
theorem spec_l01Inverse.b0_gen {ρ : Type} (N : Nat) (K : AV → Heap → Option ρ) (L0 : St → Option ρ) (kv : XE → St → Option ρ) (p0 : Int) (x1 : Int) (k2 : Int) :
    xcode (E21 N) ents spec_l01Inverse.kp 0 N (cL (cK (cB (cA (cB spec_l01Inverse.bd))))) 0 (spec_l01Inverse.st0 p0 x1 k2) (roundK spec_l01Inverse.kp 0 0 L0 (mixK (spec_l01Inverse.fin N K .ret) kv)) = (spec_l01Inverse.b0 N (fun d0 => K (.int .u8 (d0)) []) (fun k2 => L0 (spec_l01Inverse.st0 p0 x1 k2)) (kv (.exit 0) (spec_l01Inverse.sx0_0)) p0 x1 k2) := by kernel_rfl
theorem spec_l01Inverse.b0_eq {ρ : Type} (N : Nat) (K : AV → Heap → Option ρ) (L0 : St → Option ρ) (p0 : Int) (x1 : Int) (k2 : Int) :
    xcode (E21 N) ents spec_l01Inverse.kp 0 N (cL (cK (cB (cA (cB spec_l01Inverse.bd))))) 0 (spec_l01Inverse.st0 p0 x1 k2) (roundK spec_l01Inverse.kp 0 0 L0 (spec_l01Inverse.k0 N K)) = (spec_l01Inverse.b0 N (fun d0 => K (.int .u8 (d0)) []) (fun k2 => L0 (spec_l01Inverse.st0 p0 x1 k2)) ((spec_l01Inverse.k0 N K) (.exit 0) (spec_l01Inverse.sx0_0)) p0 x1 k2) := by
  have h := spec_l01Inverse.b0_gen N K L0 (spec_l01Inverse.k0 N K) p0 x1 k2
  rw [spec_l01Inverse.k0_mix] at h
  exact h
theorem spec_l01Inverse.a0_0_eq {ρ : Type} (N : Nat) (K : AV → Heap → Option ρ) :
    (spec_l01Inverse.k0 N K) (.exit 0) (spec_l01Inverse.sx0_0) = (spec_l01Inverse.a0_0 N (fun d0 => K (.int .u8 (d0)) [])) := by kernel_rfl
theorem spec_l01Inverse.l0_eq {ρ : Type} (N : Nat) (K : AV → Heap → Option ρ) (p0 : Int) (x1 : Int) :
    ∀ (m : Nat) (k2 : Int), xloop (xcode (E21 N) ents spec_l01Inverse.kp 0 N (cL (cK (cB (cA (cB spec_l01Inverse.bd))))) 0) spec_l01Inverse.kp 0 0 m (spec_l01Inverse.st0 p0 x1 k2) (spec_l01Inverse.k0 N K) = (spec_l01Inverse.l0 N (fun d0 => K (.int .u8 (d0)) []) p0 x1 ((spec_l01Inverse.k0 N K) (.exit 0) (spec_l01Inverse.sx0_0)) m k2) := by
  intro m
  induction m with
  | zero => intros; rfl
  | succ m ih =>
    intro k2
    refine (spec_l01Inverse.b0_eq N K (fun s => xloop (xcode (E21 N) ents spec_l01Inverse.kp 0 N (cL (cK (cB (cA (cB spec_l01Inverse.bd))))) 0) spec_l01Inverse.kp 0 0 m s (spec_l01Inverse.k0 N K)) p0 x1 k2).trans ?_
    simp only [ih]
    kernel_rfl
theorem spec_l01Inverse.s_eq {ρ : Type} (N : Nat) (K : AV → Heap → Option ρ) (p0 : Int) (x1 : Int) :
    xbody (E21 N) ents spec_l01Inverse.kp N Try.f109 spec_l01Inverse.bd [.int .i64 (p0), .int .u8 (x1)] [] K = (spec_l01Inverse.s N (fun d0 => K (.int .u8 (d0)) []) (fun k2 => xloop (xcode (E21 N) ents spec_l01Inverse.kp 0 N (cL (cK (cB (cA (cB spec_l01Inverse.bd))))) 0) spec_l01Inverse.kp 0 0 N (spec_l01Inverse.st0 p0 x1 k2) (spec_l01Inverse.k0 N K))) := by kernel_rfl
theorem spec_l01Inverse.eq {ρ : Type} (N : Nat) (K : AV → Heap → Option ρ) (p0 : Int) (x1 : Int) :
    xbody (E21 N) ents spec_l01Inverse.kp N Try.f109 spec_l01Inverse.bd [.int .i64 (p0), .int .u8 (x1)] [] K = (spec_l01Inverse N (fun d0 => K (.int .u8 (d0)) []) p0 x1) := by
  refine (spec_l01Inverse.s_eq N K p0 x1).trans ?_
  simp only [spec_l01Inverse.l0_eq, spec_l01Inverse.a0_0_eq]
  kernel_rfl
def spec_l01Inverse.en (N : Nat) (ρ : Type) : List AV → Heap → (AV → Heap → Option ρ) → Option ρ
  | [.int .i64 (p0), .int .u8 (x1)], [], K => (spec_l01Inverse N (fun d0 => K (.int .u8 (d0)) []) p0 x1)
  | _, _, _ => none
theorem spec_l01Inverse.en_ok (N : Nat) (hE : EnvOk (E21 N) ents) (ρ : Type) (args : List AV) (sh : Heap) (K : AV → Heap → Option ρ) (r : ρ) (h : spec_l01Inverse.en N ρ args sh K = some r) : ∃ v sh', K v sh' = some r ∧ FnOk (E21 N).P 109 args sh v sh' := by
  unfold spec_l01Inverse.en at h
  split at h
  · exact fn_ok hE (kp := spec_l01Inverse.kp) (N := N) Try.func109 (c := spec_l01Inverse.bd) (by kernel_rfl) ((spec_l01Inverse.eq N _ _ _).trans h)
  · cases h
def E22 (N : Nat) : Env := (E21 N).add 109 (spec_l01Inverse.en N)
theorem E22_ok (N : Nat) : EnvOk (E22 N) ents := Env.add_ok (E21_ok N) (spec_l01Inverse.en_ok N (E21_ok N))
end
end Go.Proofs.Ytmjpfchbkolcbaa.H
