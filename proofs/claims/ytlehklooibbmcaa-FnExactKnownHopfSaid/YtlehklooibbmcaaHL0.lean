import Derived.Test.YtlehklooibbmcaaHP0
import Derived.Test.YtlehklooibbmcaaChecked
import Derived.KernelRfl
namespace Go.Proofs.Ytlehklooibbmcaa.H
noncomputable section
set_option linter.unusedVariables false
set_option linter.unusedSimpArgs false
open Go Go.RowKit Go.Proofs.Ytlehklooibbmcaa.Hy
set_option maxRecDepth 100000
def lays : List Lay := [.other, .func, .int .i64, .int .i64, .bool, .int .u8, .int .u8, .mix [(0, 1, false), (1, 1, false), (2, 1, false), (3, 1, false)] [.int .i64, .int .i64, .bool, .int .u8], .mix [(0, 1, false), (1, 1, false), (2, 1, false), (3, 1, false)] [.int .i64, .int .i64, .bool, .int .u8], .str, .str, .str, .int .u64, .mix [(0, 1, false), (1, 1, false)] [.str, .int .u64], .mix [(0, 1, false), (1, 1, false)] [.str, .int .u64], .ptr, .ptr, .ptr, .other, .other, .other, .int .i32, .arr 8 5 1 .u8, .arr 8 5 1 .u8, .arr 8 23 8 .u8, .arr 8 23 8 .u8, .arr 8 25 64 .u8, .arr 8 25 64 .u8, .struct [(0, 1, false), (1, 1, false), (2, 8, true), (10, 512, true), (522, 8, true), (530, 512, true), (1042, 64, true)] [(.i64, 2), (.u8, 1104)], .struct [(0, 1, false), (1, 1, false), (2, 8, true), (10, 512, true), (522, 8, true), (530, 512, true), (1042, 64, true)] [(.i64, 2), (.u8, 1104)], .other, .func, .func, .func, .func, .func, .slice 70 1 24, .other, .func, .func, .other, .func, .func, .func, .func, .func, .func, .func, .func, .func, .func, .func, .func, .func, .func, .func, .func, .func, .func, .func, .func, .func, .func, .func, .struct [(0, 1, false), (1, 1, false), (2, 8, true), (10, 512, true)] [(.i64, 2), (.u8, 520)], .struct [(0, 1, false), (1, 1, false), (2, 8, true), (10, 512, true)] [(.i64, 2), (.u8, 520)], .slice 23 8 8, .func, .func, .func, .slice 2 1 8, .func, .struct [(0, 1, false), (1, 1, false)] [(.i64, 2)], .struct [(0, 1, false), (1, 1, false)] [(.i64, 2)], .func, .func, .func, .other, .func, .func, .func, .ptr, .slice 3 1 8, .func, .func, .func, .func, .ptr, .func, .ptr, .func, .func, .func, .func, .func, .func, .func, .ptr, .func, .func, .func, .func, .func, .other, .other, .other, .other, .other, .func, .int .u32, .int .u8, .int .u8, .func, .ptr, .int .i32, .int .i32, .other, .other, .func, .func, .func, .other]
def wrs : List (FuncId × List Bool) := [(80, [true]), (81, [false, false, false, false, true]), (82, [false, false, false, true]), (83, [false, false, false, true])]
def ents : List FuncId := [3, 4, 5, 6, 7, 8, 9, 10, 11, 12, 13, 14, 15, 16, 17, 18, 19, 20, 21, 22, 23, 24, 25, 26, 27, 28, 29, 30, 31, 32, 33, 34, 35, 36, 37, 38, 39, 40, 41, 42, 43, 44, 45, 46, 47, 48, 49, 50, 51, 52, 53, 54, 55, 56, 57, 58, 59, 60, 61, 62, 63, 64, 65, 66, 67, 68, 69, 70, 71, 72, 73, 74, 75, 76, 77, 78, 79, 80, 81, 82, 83, 84, 85, 86]
def E0 (N : Nat) : Env := env0 Go.Proofs.Try.prog lays wrs
theorem E0_ok (N : Nat) : EnvOk (E0 N) ents := env0_ok (by kernel_rfl) (by kernel_rfl) (by kernel_rfl)
def Q0.kp : Keeps := ⟨[], [], []⟩
def Q0.bd : Code := bodyOf Try.f24
def Q0.fin {ρ : Type} (N : Nat) (K : AV → Heap → Option ρ) : XE → St → Option ρ := finK (E0 N) Q0.kp.fins Try.f24 [] K
theorem Q0.eq {ρ : Type} (N : Nat) (K : AV → Heap → Option ρ) (nv0 : Int) (low1 : Int) (high2 : Int) :
    xbody (E0 N) ents Q0.kp N Try.f24 Q0.bd [.int .i64 (nv0), .int .i64 (low1), .int .i64 (high2)] [] K = (Q0 N (fun d0 => K (.bool (d0)) []) nv0 low1 high2) := by kernel_rfl
def Q0.en (N : Nat) (ρ : Type) : List AV → Heap → (AV → Heap → Option ρ) → Option ρ
  | [.int .i64 (nv0), .int .i64 (low1), .int .i64 (high2)], [], K => (Q0 N (fun d0 => K (.bool (d0)) []) nv0 low1 high2)
  | _, _, _ => none
theorem Q0.en_ok (N : Nat) (hE : EnvOk (E0 N) ents) (ρ : Type) (args : List AV) (sh : Heap) (K : AV → Heap → Option ρ) (r : ρ) (h : Q0.en N ρ args sh K = some r) : ∃ v sh', K v sh' = some r ∧ FnOk (E0 N).P 24 args sh v sh' := by
  unfold Q0.en at h
  split at h
  · exact fn_ok hE (kp := Q0.kp) (N := N) Try.func24 (c := Q0.bd) (by kernel_rfl) ((Q0.eq N _ _ _ _).trans h)
  · cases h
def E1 (N : Nat) : Env := (E0 N).add 24 (Q0.en N)
theorem E1_ok (N : Nat) : EnvOk (E1 N) ents := Env.add_ok (E0_ok N) (Q0.en_ok N (E0_ok N))
def Q1.kp : Keeps := ⟨[(0, [0, 3], [], [])], [(0, [0], [], [])], []⟩
def Q1.bd : Code := bodyOf Try.f23
def Q1.fin {ρ : Type} (N : Nat) (K : AV → Heap → Option ρ) : XE → St → Option ρ := finK (E1 N) Q1.kp.fins Try.f23 [] K
def Q1.k0 {ρ : Type} (N : Nat) (K : AV → Heap → Option ρ) : XE → St → Option ρ := (blockK Q1.kp 0 0 (seqK (xcode (E1 N) ents Q1.kp 0 N (cB (cB Q1.bd)) 0) (Q1.fin N K)))
theorem Q1.k0_mix {ρ : Type} (N : Nat) (K : AV → Heap → Option ρ) : mixK (Q1.fin N K .ret) (Q1.k0 N K) = (Q1.k0 N K) := by
  funext e s; cases e <;> kernel_rfl
def Q1.st0 (p0 : Int) (k1 : Int) : St := ⟨sl 19 [(0, .int .i64 (p0)), (3, .int .i64 (k1))], []⟩
def Q1.sx0_0 (p0 : Int) : St := ⟨sl 19 [(0, .int .i64 (p0))], []⟩
theorem Q1.b0_gen {ρ : Type} (N : Nat) (K : AV → Heap → Option ρ) (L0 : St → Option ρ) (kv : XE → St → Option ρ) (p0 : Int) (k1 : Int) :
    xcode (E1 N) ents Q1.kp 0 N (cL (cK (cB (cA (cB Q1.bd))))) 0 (Q1.st0 p0 k1) (roundK Q1.kp 0 0 L0 (mixK (Q1.fin N K .ret) kv)) = (Q1.b0 N (fun d0 => K (.bool (d0)) []) (fun k1 => L0 (Q1.st0 p0 k1)) (kv (.exit 0) (Q1.sx0_0 p0)) p0 k1) := by kernel_rfl
theorem Q1.b0_eq {ρ : Type} (N : Nat) (K : AV → Heap → Option ρ) (L0 : St → Option ρ) (p0 : Int) (k1 : Int) :
    xcode (E1 N) ents Q1.kp 0 N (cL (cK (cB (cA (cB Q1.bd))))) 0 (Q1.st0 p0 k1) (roundK Q1.kp 0 0 L0 (Q1.k0 N K)) = (Q1.b0 N (fun d0 => K (.bool (d0)) []) (fun k1 => L0 (Q1.st0 p0 k1)) ((Q1.k0 N K) (.exit 0) (Q1.sx0_0 p0)) p0 k1) := by
  have h := Q1.b0_gen N K L0 (Q1.k0 N K) p0 k1
  rw [Q1.k0_mix] at h
  exact h
theorem Q1.a0_0_eq {ρ : Type} (N : Nat) (K : AV → Heap → Option ρ) (p0 : Int) :
    (Q1.k0 N K) (.exit 0) (Q1.sx0_0 p0) = (Q1.a0_0 N (fun d0 => K (.bool (d0)) []) p0) := by kernel_rfl
theorem Q1.l0_eq {ρ : Type} (N : Nat) (K : AV → Heap → Option ρ) (p0 : Int) :
    ∀ (m : Nat) (k1 : Int), xloop (xcode (E1 N) ents Q1.kp 0 N (cL (cK (cB (cA (cB Q1.bd))))) 0) Q1.kp 0 0 m (Q1.st0 p0 k1) (Q1.k0 N K) = (Q1.l0 N (fun d0 => K (.bool (d0)) []) p0 ((Q1.k0 N K) (.exit 0) (Q1.sx0_0 p0)) m k1) := by
  intro m
  induction m with
  | zero => intros; rfl
  | succ m ih =>
    intro k1
    refine (Q1.b0_eq N K (fun s => xloop (xcode (E1 N) ents Q1.kp 0 N (cL (cK (cB (cA (cB Q1.bd))))) 0) Q1.kp 0 0 m s (Q1.k0 N K)) p0 k1).trans ?_
    simp only [ih]
    kernel_rfl
theorem Q1.s_eq {ρ : Type} (N : Nat) (K : AV → Heap → Option ρ) (p0 : Int) :
    xbody (E1 N) ents Q1.kp N Try.f23 Q1.bd [.int .i64 (p0)] [] K = (Q1.s N (fun d0 => K (.bool (d0)) []) (fun k1 => xloop (xcode (E1 N) ents Q1.kp 0 N (cL (cK (cB (cA (cB Q1.bd))))) 0) Q1.kp 0 0 N (Q1.st0 p0 k1) (Q1.k0 N K))) := by kernel_rfl
theorem Q1.eq {ρ : Type} (N : Nat) (K : AV → Heap → Option ρ) (p0 : Int) :
    xbody (E1 N) ents Q1.kp N Try.f23 Q1.bd [.int .i64 (p0)] [] K = (Q1 N (fun d0 => K (.bool (d0)) []) p0) := by
  refine (Q1.s_eq N K p0).trans ?_
  simp only [Q1.l0_eq, Q1.a0_0_eq]
  kernel_rfl
def Q1.en (N : Nat) (ρ : Type) : List AV → Heap → (AV → Heap → Option ρ) → Option ρ
  | [.int .i64 (p0)], [], K => (Q1 N (fun d0 => K (.bool (d0)) []) p0)
  | _, _, _ => none
theorem Q1.en_ok (N : Nat) (hE : EnvOk (E1 N) ents) (ρ : Type) (args : List AV) (sh : Heap) (K : AV → Heap → Option ρ) (r : ρ) (h : Q1.en N ρ args sh K = some r) : ∃ v sh', K v sh' = some r ∧ FnOk (E1 N).P 23 args sh v sh' := by
  unfold Q1.en at h
  split at h
  · exact fn_ok hE (kp := Q1.kp) (N := N) Try.func23 (c := Q1.bd) (by kernel_rfl) ((Q1.eq N _ _).trans h)
  · cases h
def E2 (N : Nat) : Env := (E1 N).add 23 (Q1.en N)
theorem E2_ok (N : Nat) : EnvOk (E2 N) ents := Env.add_ok (E1_ok N) (Q1.en_ok N (E1_ok N))
def Q2.kp : Keeps := ⟨[], [], []⟩
def Q2.bd : Code := bodyOf Try.f50
def Q2.fin {ρ : Type} (N : Nat) (K : AV → Heap → Option ρ) : XE → St → Option ρ := finK (E2 N) Q2.kp.fins Try.f50 [] K
theorem Q2.eq {ρ : Type} (N : Nat) (K : AV → Heap → Option ρ) (p0 : Int) (x1 : Int) :
    xbody (E2 N) ents Q2.kp N Try.f50 Q2.bd [.int .i64 (p0), .int .i64 (x1)] [] K = (Q2 N (fun d0 => K (.int .u8 (d0)) []) p0 x1) := by kernel_rfl
def Q2.en (N : Nat) (ρ : Type) : List AV → Heap → (AV → Heap → Option ρ) → Option ρ
  | [.int .i64 (p0), .int .i64 (x1)], [], K => (Q2 N (fun d0 => K (.int .u8 (d0)) []) p0 x1)
  | _, _, _ => none
theorem Q2.en_ok (N : Nat) (hE : EnvOk (E2 N) ents) (ρ : Type) (args : List AV) (sh : Heap) (K : AV → Heap → Option ρ) (r : ρ) (h : Q2.en N ρ args sh K = some r) : ∃ v sh', K v sh' = some r ∧ FnOk (E2 N).P 50 args sh v sh' := by
  unfold Q2.en at h
  split at h
  · exact fn_ok hE (kp := Q2.kp) (N := N) Try.func50 (c := Q2.bd) (by kernel_rfl) ((Q2.eq N _ _ _).trans h)
  · cases h
def E3 (N : Nat) : Env := (E2 N).add 50 (Q2.en N)
theorem E3_ok (N : Nat) : EnvOk (E3 N) ents := Env.add_ok (E2_ok N) (Q2.en_ok N (E2_ok N))
def Q3.kp : Keeps := ⟨[(0, [0, 1, 4, 5, 6], [], []), (2, [0, 1, 4, 5, 6, 7, 8], [], [])], [(0, [4, 5], [], []), (2, [0, 1, 4, 5, 6], [], [])], []⟩
def Q3.bd : Code := bodyOf Try.f25
def Q3.fin {ρ : Type} (N : Nat) (K : AV → Heap → Option ρ) : XE → St → Option ρ := finK (E3 N) Q3.kp.fins Try.f25 [] K
def Q3.k0 {ρ : Type} (N : Nat) (K : AV → Heap → Option ρ) : XE → St → Option ρ := (blockK Q3.kp 0 0 (seqK (xcode (E3 N) ents Q3.kp 0 N (cB (cB (cB (cB (cB Q3.bd))))) 0) (Q3.fin N K)))
theorem Q3.k0_mix {ρ : Type} (N : Nat) (K : AV → Heap → Option ρ) : mixK (Q3.fin N K .ret) (Q3.k0 N K) = (Q3.k0 N K) := by
  funext e s; cases e <;> kernel_rfl
def Q3.st0 (p0 : Int) (k1 : Int) (i2 : Int) (gv3 : Nat → Int) : St := ⟨sl 89 [(0, .int .i64 (p0)), (1, .int .i64 (k1)), (4, .sptr [(0, 2), (1, 1104)]), (5, .sptr [(2, 2), (3, 1104)]), (6, .int .i64 (i2))], [⟨true, .flat 2 (.ints .i64 (fun _ => 0))⟩, ⟨true, .flat 1104 (.ints .u8 (fun _ => 0))⟩, ⟨true, .flat 2 (.ints .i64 (upd (upd (fun _ => 0) 0 p0) 1 p0))⟩, ⟨true, .flat 1104 (.ints .u8 gv3)⟩]⟩
def Q3.sx0_0 (p0 : Int) (ov11 : Nat → Int) : St := ⟨sl 89 [(4, .sptr [(0, 2), (1, 1104)]), (5, .sptr [(2, 2), (3, 1104)])], [⟨true, .flat 2 (.ints .i64 (fun _ => 0))⟩, ⟨true, .flat 1104 (.ints .u8 (fun _ => 0))⟩, ⟨true, .flat 2 (.ints .i64 (upd (upd (fun _ => 0) 0 p0) 1 p0))⟩, ⟨true, .flat 1104 (.ints .u8 ov11)⟩]⟩
def Q3.k1g {ρ : Type} (N : Nat) (L0 : St → Option ρ) (kv : XE → St → Option ρ) : XE → St → Option ρ := (blockK Q3.kp 0 2 (seqK (xcode (E3 N) ents Q3.kp 0 N (cB (cB (cK (cA (cB (cL (cK (cB (cA (cB (cB (cB (cB Q3.bd))))))))))))) 1) (blockK Q3.kp 0 1 (seqK (xcode (E3 N) ents Q3.kp 0 N (cB (cB (cL (cK (cB (cA (cB (cB (cB (cB Q3.bd)))))))))) 0) (roundK Q3.kp 0 0 L0 kv)))))
theorem Q3.k1_mix {ρ : Type} (N : Nat) (K : AV → Heap → Option ρ) (L0 : St → Option ρ) : mixK (Q3.fin N K .ret) (Q3.k1g N L0 (Q3.k0 N K)) = (Q3.k1g N L0 (Q3.k0 N K)) := by
  funext e s; cases e <;> kernel_rfl
def Q3.st1 (p0 : Int) (k1 : Int) (i2 : Int) (factor4 : Int) (j5 : Int) (gv6 : Nat → Int) : St := ⟨sl 89 [(0, .int .i64 (p0)), (1, .int .i64 (k1)), (4, .sptr [(0, 2), (1, 1104)]), (5, .sptr [(2, 2), (3, 1104)]), (6, .int .i64 (i2)), (7, .int .i64 (factor4)), (8, .int .i64 (j5))], [⟨true, .flat 2 (.ints .i64 (fun _ => 0))⟩, ⟨true, .flat 1104 (.ints .u8 (fun _ => 0))⟩, ⟨true, .flat 2 (.ints .i64 (upd (upd (fun _ => 0) 0 p0) 1 p0))⟩, ⟨true, .flat 1104 (.ints .u8 gv6)⟩]⟩
def Q3.sx1_0 (p0 : Int) (k1 : Int) (i2 : Int) (ov9 : Nat → Int) : St := ⟨sl 89 [(0, .int .i64 (p0)), (1, .int .i64 (k1)), (4, .sptr [(0, 2), (1, 1104)]), (5, .sptr [(2, 2), (3, 1104)]), (6, .int .i64 (i2))], [⟨true, .flat 2 (.ints .i64 (fun _ => 0))⟩, ⟨true, .flat 1104 (.ints .u8 (fun _ => 0))⟩, ⟨true, .flat 2 (.ints .i64 (upd (upd (fun _ => 0) 0 p0) 1 p0))⟩, ⟨true, .flat 1104 (.ints .u8 ov9)⟩]⟩
theorem Q3.b1_gen {ρ : Type} (N : Nat) (K : AV → Heap → Option ρ) (L1 : St → Option ρ) (kv : XE → St → Option ρ) (p0 : Int) (k1 : Int) (i2 : Int) (factor4 : Int) (j5 : Int) (gv6 : Nat → Int) :
    xcode (E3 N) ents Q3.kp 0 N (cL (cK (cB (cA (cB (cK (cA (cB (cL (cK (cB (cA (cB (cB (cB (cB Q3.bd)))))))))))))))) 2 (Q3.st1 p0 k1 i2 factor4 j5 gv6) (roundK Q3.kp 0 2 L1 (mixK (Q3.fin N K .ret) kv)) = (Q3.b1 N (fun d0 d1 => K (.agg [⟨.i64, 2, d0⟩, ⟨.u8, 1104, d1⟩]) []) (fun factor4 j5 gv6 => L1 (Q3.st1 p0 k1 i2 factor4 j5 gv6)) (fun ov9 => kv (.exit 2) (Q3.sx1_0 p0 k1 i2 ov9)) p0 k1 i2 factor4 j5 gv6) := by kernel_rfl
theorem Q3.b1_eq {ρ : Type} (N : Nat) (K : AV → Heap → Option ρ) (L0 : St → Option ρ) (L1 : St → Option ρ) (p0 : Int) (k1 : Int) (i2 : Int) (factor4 : Int) (j5 : Int) (gv6 : Nat → Int) :
    xcode (E3 N) ents Q3.kp 0 N (cL (cK (cB (cA (cB (cK (cA (cB (cL (cK (cB (cA (cB (cB (cB (cB Q3.bd)))))))))))))))) 2 (Q3.st1 p0 k1 i2 factor4 j5 gv6) (roundK Q3.kp 0 2 L1 (Q3.k1g N L0 (Q3.k0 N K))) = (Q3.b1 N (fun d0 d1 => K (.agg [⟨.i64, 2, d0⟩, ⟨.u8, 1104, d1⟩]) []) (fun factor4 j5 gv6 => L1 (Q3.st1 p0 k1 i2 factor4 j5 gv6)) (fun ov9 => (Q3.k1g N L0 (Q3.k0 N K)) (.exit 2) (Q3.sx1_0 p0 k1 i2 ov9)) p0 k1 i2 factor4 j5 gv6) := by
  have h := Q3.b1_gen N K L1 (Q3.k1g N L0 (Q3.k0 N K)) p0 k1 i2 factor4 j5 gv6
  rw [Q3.k1_mix] at h
  exact h
theorem Q3.a1_0_gen {ρ : Type} (N : Nat) (K : AV → Heap → Option ρ) (L0 : St → Option ρ) (kv : XE → St → Option ρ) (p0 : Int) (k1 : Int) (i2 : Int) (ov9 : Nat → Int) :
    (Q3.k1g N L0 (mixK (Q3.fin N K .ret) kv)) (.exit 2) (Q3.sx1_0 p0 k1 i2 ov9) = (Q3.a1_0 N (fun d0 d1 => K (.agg [⟨.i64, 2, d0⟩, ⟨.u8, 1104, d1⟩]) []) (fun i2 gv3 => L0 (Q3.st0 p0 k1 i2 gv3)) (fun ov11 => kv (.exit 0) (Q3.sx0_0 p0 ov11)) p0 i2 ov9) := by kernel_rfl
theorem Q3.a1_0_eq {ρ : Type} (N : Nat) (K : AV → Heap → Option ρ) (L0 : St → Option ρ) (p0 : Int) (k1 : Int) (i2 : Int) (ov9 : Nat → Int) :
    (Q3.k1g N L0 (Q3.k0 N K)) (.exit 2) (Q3.sx1_0 p0 k1 i2 ov9) = (Q3.a1_0 N (fun d0 d1 => K (.agg [⟨.i64, 2, d0⟩, ⟨.u8, 1104, d1⟩]) []) (fun i2 gv3 => L0 (Q3.st0 p0 k1 i2 gv3)) (fun ov11 => (Q3.k0 N K) (.exit 0) (Q3.sx0_0 p0 ov11)) p0 i2 ov9) := by
  have h := Q3.a1_0_gen N K L0 (Q3.k0 N K) p0 k1 i2 ov9
  rw [Q3.k0_mix] at h
  exact h
theorem Q3.b0_gen {ρ : Type} (N : Nat) (K : AV → Heap → Option ρ) (L0 : St → Option ρ) (kv : XE → St → Option ρ) (p0 : Int) (k1 : Int) (i2 : Int) (gv3 : Nat → Int) :
    xcode (E3 N) ents Q3.kp 0 N (cL (cK (cB (cA (cB (cB (cB (cB Q3.bd)))))))) 0 (Q3.st0 p0 k1 i2 gv3) (roundK Q3.kp 0 0 L0 (mixK (Q3.fin N K .ret) kv)) = (Q3.b0 N (fun d0 d1 => K (.agg [⟨.i64, 2, d0⟩, ⟨.u8, 1104, d1⟩]) []) (fun factor4 j5 gv6 => xloop (xcode (E3 N) ents Q3.kp 0 N (cL (cK (cB (cA (cB (cK (cA (cB (cL (cK (cB (cA (cB (cB (cB (cB Q3.bd)))))))))))))))) 2) Q3.kp 0 2 N (Q3.st1 p0 k1 i2 factor4 j5 gv6) (Q3.k1g N L0 (mixK (Q3.fin N K .ret) kv))) (fun i2 gv3 => L0 (Q3.st0 p0 k1 i2 gv3)) (fun ov11 => kv (.exit 0) (Q3.sx0_0 p0 ov11)) p0 i2 gv3) := by kernel_rfl
theorem Q3.b0_eq {ρ : Type} (N : Nat) (K : AV → Heap → Option ρ) (L0 : St → Option ρ) (p0 : Int) (k1 : Int) (i2 : Int) (gv3 : Nat → Int) :
    xcode (E3 N) ents Q3.kp 0 N (cL (cK (cB (cA (cB (cB (cB (cB Q3.bd)))))))) 0 (Q3.st0 p0 k1 i2 gv3) (roundK Q3.kp 0 0 L0 (Q3.k0 N K)) = (Q3.b0 N (fun d0 d1 => K (.agg [⟨.i64, 2, d0⟩, ⟨.u8, 1104, d1⟩]) []) (fun factor4 j5 gv6 => xloop (xcode (E3 N) ents Q3.kp 0 N (cL (cK (cB (cA (cB (cK (cA (cB (cL (cK (cB (cA (cB (cB (cB (cB Q3.bd)))))))))))))))) 2) Q3.kp 0 2 N (Q3.st1 p0 k1 i2 factor4 j5 gv6) (Q3.k1g N L0 (Q3.k0 N K))) (fun i2 gv3 => L0 (Q3.st0 p0 k1 i2 gv3)) (fun ov11 => (Q3.k0 N K) (.exit 0) (Q3.sx0_0 p0 ov11)) p0 i2 gv3) := by
  have h := Q3.b0_gen N K L0 (Q3.k0 N K) p0 k1 i2 gv3
  rw [Q3.k0_mix] at h
  exact h
theorem Q3.a0_0_eq {ρ : Type} (N : Nat) (K : AV → Heap → Option ρ) (p0 : Int) (ov11 : Nat → Int) :
    (Q3.k0 N K) (.exit 0) (Q3.sx0_0 p0 ov11) = (Q3.a0_0 N (fun d0 d1 => K (.agg [⟨.i64, 2, d0⟩, ⟨.u8, 1104, d1⟩]) []) p0 ov11) := by kernel_rfl
theorem Q3.l1_eq {ρ : Type} (N : Nat) (K : AV → Heap → Option ρ) (L0 : St → Option ρ) (p0 : Int) (k1 : Int) (i2 : Int) :
    ∀ (m : Nat) (factor4 : Int) (j5 : Int) (gv6 : Nat → Int), xloop (xcode (E3 N) ents Q3.kp 0 N (cL (cK (cB (cA (cB (cK (cA (cB (cL (cK (cB (cA (cB (cB (cB (cB Q3.bd)))))))))))))))) 2) Q3.kp 0 2 m (Q3.st1 p0 k1 i2 factor4 j5 gv6) (Q3.k1g N L0 (Q3.k0 N K)) = (Q3.l1 N (fun d0 d1 => K (.agg [⟨.i64, 2, d0⟩, ⟨.u8, 1104, d1⟩]) []) p0 k1 i2 (fun ov9 => (Q3.k1g N L0 (Q3.k0 N K)) (.exit 2) (Q3.sx1_0 p0 k1 i2 ov9)) m factor4 j5 gv6) := by
  intro m
  induction m with
  | zero => intros; rfl
  | succ m ih =>
    intro factor4 j5 gv6
    refine (Q3.b1_eq N K L0 (fun s => xloop (xcode (E3 N) ents Q3.kp 0 N (cL (cK (cB (cA (cB (cK (cA (cB (cL (cK (cB (cA (cB (cB (cB (cB Q3.bd)))))))))))))))) 2) Q3.kp 0 2 m s (Q3.k1g N L0 (Q3.k0 N K))) p0 k1 i2 factor4 j5 gv6).trans ?_
    simp only [ih]
    kernel_rfl
theorem Q3.l0_eq {ρ : Type} (N : Nat) (K : AV → Heap → Option ρ) (p0 : Int) (k1 : Int) :
    ∀ (m : Nat) (i2 : Int) (gv3 : Nat → Int), xloop (xcode (E3 N) ents Q3.kp 0 N (cL (cK (cB (cA (cB (cB (cB (cB Q3.bd)))))))) 0) Q3.kp 0 0 m (Q3.st0 p0 k1 i2 gv3) (Q3.k0 N K) = (Q3.l0 N (fun d0 d1 => K (.agg [⟨.i64, 2, d0⟩, ⟨.u8, 1104, d1⟩]) []) p0 k1 (fun ov11 => (Q3.k0 N K) (.exit 0) (Q3.sx0_0 p0 ov11)) m i2 gv3) := by
  intro m
  induction m with
  | zero => intros; rfl
  | succ m ih =>
    intro i2 gv3
    refine (Q3.b0_eq N K (fun s => xloop (xcode (E3 N) ents Q3.kp 0 N (cL (cK (cB (cA (cB (cB (cB (cB Q3.bd)))))))) 0) Q3.kp 0 0 m s (Q3.k0 N K)) p0 k1 i2 gv3).trans ?_
    simp only [ih, Q3.l1_eq, Q3.a1_0_eq]
    kernel_rfl
theorem Q3.s_eq {ρ : Type} (N : Nat) (K : AV → Heap → Option ρ) (p0 : Int) (k1 : Int) :
    xbody (E3 N) ents Q3.kp N Try.f25 Q3.bd [.int .i64 (p0), .int .i64 (k1)] [] K = (Q3.s N (fun d0 d1 => K (.agg [⟨.i64, 2, d0⟩, ⟨.u8, 1104, d1⟩]) []) (fun i2 gv3 => xloop (xcode (E3 N) ents Q3.kp 0 N (cL (cK (cB (cA (cB (cB (cB (cB Q3.bd)))))))) 0) Q3.kp 0 0 N (Q3.st0 p0 k1 i2 gv3) (Q3.k0 N K))) := by kernel_rfl
theorem Q3.eq {ρ : Type} (N : Nat) (K : AV → Heap → Option ρ) (p0 : Int) (k1 : Int) :
    xbody (E3 N) ents Q3.kp N Try.f25 Q3.bd [.int .i64 (p0), .int .i64 (k1)] [] K = (Q3 N (fun d0 d1 => K (.agg [⟨.i64, 2, d0⟩, ⟨.u8, 1104, d1⟩]) []) p0 k1) := by
  refine (Q3.s_eq N K p0 k1).trans ?_
  simp only [Q3.l0_eq, Q3.a0_0_eq]
  kernel_rfl
def Q3.en (N : Nat) (ρ : Type) : List AV → Heap → (AV → Heap → Option ρ) → Option ρ
  | [.int .i64 (p0), .int .i64 (k1)], [], K => (Q3 N (fun d0 d1 => K (.agg [⟨.i64, 2, d0⟩, ⟨.u8, 1104, d1⟩]) []) p0 k1)
  | _, _, _ => none
theorem Q3.en_ok (N : Nat) (hE : EnvOk (E3 N) ents) (ρ : Type) (args : List AV) (sh : Heap) (K : AV → Heap → Option ρ) (r : ρ) (h : Q3.en N ρ args sh K = some r) : ∃ v sh', K v sh' = some r ∧ FnOk (E3 N).P 25 args sh v sh' := by
  unfold Q3.en at h
  split at h
  · exact fn_ok hE (kp := Q3.kp) (N := N) Try.func25 (c := Q3.bd) (by kernel_rfl) ((Q3.eq N _ _ _).trans h)
  · cases h
def E4 (N : Nat) : Env := (E3 N).add 25 (Q3.en N)
theorem E4_ok (N : Nat) : EnvOk (E4 N) ents := Env.add_ok (E3_ok N) (Q3.en_ok N (E3_ok N))
def Q4.kp : Keeps := ⟨[], [], []⟩
def Q4.bd : Code := bodyOf Try.f7
def Q4.fin {ρ : Type} (N : Nat) (K : AV → Heap → Option ρ) : XE → St → Option ρ := finK (E4 N) Q4.kp.fins Try.f7 [] K
theorem Q4.eq {ρ : Type} (N : Nat) (K : AV → Heap → Option ρ) (p0 : Int) (k1 : Int) :
    xbody (E4 N) ents Q4.kp N Try.f7 Q4.bd [.int .i64 (p0), .int .i64 (k1)] [] K = (Q4 N (fun d0 d1 d2 => K (.tup [.agg [⟨.i64, 2, d0⟩, ⟨.u8, 1104, d1⟩], .int .i64 (d2)]) []) p0 k1) := by kernel_rfl
def Q4.en (N : Nat) (ρ : Type) : List AV → Heap → (AV → Heap → Option ρ) → Option ρ
  | [.int .i64 (p0), .int .i64 (k1)], [], K => (Q4 N (fun d0 d1 d2 => K (.tup [.agg [⟨.i64, 2, d0⟩, ⟨.u8, 1104, d1⟩], .int .i64 (d2)]) []) p0 k1)
  | _, _, _ => none
theorem Q4.en_ok (N : Nat) (hE : EnvOk (E4 N) ents) (ρ : Type) (args : List AV) (sh : Heap) (K : AV → Heap → Option ρ) (r : ρ) (h : Q4.en N ρ args sh K = some r) : ∃ v sh', K v sh' = some r ∧ FnOk (E4 N).P 7 args sh v sh' := by
  unfold Q4.en at h
  split at h
  · exact fn_ok hE (kp := Q4.kp) (N := N) Try.func7 (c := Q4.bd) (by kernel_rfl) ((Q4.eq N _ _ _).trans h)
  · cases h
def E5 (N : Nat) : Env := (E4 N).add 7 (Q4.en N)
theorem E5_ok (N : Nat) : EnvOk (E5 N) ents := Env.add_ok (E4_ok N) (Q4.en_ok N (E4_ok N))
def Q5.kp : Keeps := ⟨[], [], []⟩
def Q5.bd : Code := bodyOf Try.f52
def Q5.fin {ρ : Type} (N : Nat) (K : AV → Heap → Option ρ) : XE → St → Option ρ := finK (E5 N) Q5.kp.fins Try.f52 [] K
theorem Q5.eq {ρ : Type} (N : Nat) (K : AV → Heap → Option ρ) (i0 : Int) :
    xbody (E5 N) ents Q5.kp N Try.f52 Q5.bd [.int .i64 (i0)] [] K = (Q5 N (fun d0 => K (.agg [⟨.u8, 8, d0⟩]) []) i0) := by kernel_rfl
def Q5.en (N : Nat) (ρ : Type) : List AV → Heap → (AV → Heap → Option ρ) → Option ρ
  | [.int .i64 (i0)], [], K => (Q5 N (fun d0 => K (.agg [⟨.u8, 8, d0⟩]) []) i0)
  | _, _, _ => none
theorem Q5.en_ok (N : Nat) (hE : EnvOk (E5 N) ents) (ρ : Type) (args : List AV) (sh : Heap) (K : AV → Heap → Option ρ) (r : ρ) (h : Q5.en N ρ args sh K = some r) : ∃ v sh', K v sh' = some r ∧ FnOk (E5 N).P 52 args sh v sh' := by
  unfold Q5.en at h
  split at h
  · exact fn_ok hE (kp := Q5.kp) (N := N) Try.func52 (c := Q5.bd) (by kernel_rfl) ((Q5.eq N _ _).trans h)
  · cases h
def E6 (N : Nat) : Env := (E5 N).add 52 (Q5.en N)
theorem E6_ok (N : Nat) : EnvOk (E6 N) ents := Env.add_ok (E5_ok N) (Q5.en_ok N (E5_ok N))
def Q6.kp : Keeps := ⟨[(0, [0, 2, 3, 4], [], [])], [(0, [2, 3], [], [])], []⟩
def Q6.bd : Code := bodyOf Try.f51
def Q6.fin {ρ : Type} (N : Nat) (K : AV → Heap → Option ρ) : XE → St → Option ρ := finK (E6 N) Q6.kp.fins Try.f51 [] K
def Q6.k0 {ρ : Type} (N : Nat) (K : AV → Heap → Option ρ) : XE → St → Option ρ := (blockK Q6.kp 0 0 (seqK (xcode (E6 N) ents Q6.kp 0 N (cB (cB (cB Q6.bd))) 0) (Q6.fin N K)))
theorem Q6.k0_mix {ρ : Type} (N : Nat) (K : AV → Heap → Option ρ) : mixK (Q6.fin N K .ret) (Q6.k0 N K) = (Q6.k0 N K) := by
  funext e s; cases e <;> kernel_rfl
def Q6.st0 (nv0 : Int) (i1 : Int) (gv2 : Nat → Int) : St := ⟨sl 16 [(0, .int .i64 (nv0)), (2, .sptr [(0, 64)]), (3, .sptr [(1, 64)]), (4, .int .i64 (i1))], [⟨true, .flat 64 (.ints .u8 (fun _ => 0))⟩, ⟨true, .flat 64 (.ints .u8 gv2)⟩]⟩
def Q6.sx0_0 (ov4 : Nat → Int) : St := ⟨sl 16 [(2, .sptr [(0, 64)]), (3, .sptr [(1, 64)])], [⟨true, .flat 64 (.ints .u8 (fun _ => 0))⟩, ⟨true, .flat 64 (.ints .u8 ov4)⟩]⟩
theorem Q6.b0_gen {ρ : Type} (N : Nat) (K : AV → Heap → Option ρ) (L0 : St → Option ρ) (kv : XE → St → Option ρ) (nv0 : Int) (i1 : Int) (gv2 : Nat → Int) :
    xcode (E6 N) ents Q6.kp 0 N (cL (cK (cB (cA (cB (cB Q6.bd)))))) 0 (Q6.st0 nv0 i1 gv2) (roundK Q6.kp 0 0 L0 (mixK (Q6.fin N K .ret) kv)) = (Q6.b0 N (fun d0 => K (.agg [⟨.u8, 64, d0⟩]) []) (fun i1 gv2 => L0 (Q6.st0 nv0 i1 gv2)) (fun ov4 => kv (.exit 0) (Q6.sx0_0 ov4)) nv0 i1 gv2) := by kernel_rfl
theorem Q6.b0_eq {ρ : Type} (N : Nat) (K : AV → Heap → Option ρ) (L0 : St → Option ρ) (nv0 : Int) (i1 : Int) (gv2 : Nat → Int) :
    xcode (E6 N) ents Q6.kp 0 N (cL (cK (cB (cA (cB (cB Q6.bd)))))) 0 (Q6.st0 nv0 i1 gv2) (roundK Q6.kp 0 0 L0 (Q6.k0 N K)) = (Q6.b0 N (fun d0 => K (.agg [⟨.u8, 64, d0⟩]) []) (fun i1 gv2 => L0 (Q6.st0 nv0 i1 gv2)) (fun ov4 => (Q6.k0 N K) (.exit 0) (Q6.sx0_0 ov4)) nv0 i1 gv2) := by
  have h := Q6.b0_gen N K L0 (Q6.k0 N K) nv0 i1 gv2
  rw [Q6.k0_mix] at h
  exact h
theorem Q6.a0_0_eq {ρ : Type} (N : Nat) (K : AV → Heap → Option ρ) (ov4 : Nat → Int) :
    (Q6.k0 N K) (.exit 0) (Q6.sx0_0 ov4) = (Q6.a0_0 N (fun d0 => K (.agg [⟨.u8, 64, d0⟩]) []) ov4) := by kernel_rfl
theorem Q6.l0_eq {ρ : Type} (N : Nat) (K : AV → Heap → Option ρ) (nv0 : Int) :
    ∀ (m : Nat) (i1 : Int) (gv2 : Nat → Int), xloop (xcode (E6 N) ents Q6.kp 0 N (cL (cK (cB (cA (cB (cB Q6.bd)))))) 0) Q6.kp 0 0 m (Q6.st0 nv0 i1 gv2) (Q6.k0 N K) = (Q6.l0 N (fun d0 => K (.agg [⟨.u8, 64, d0⟩]) []) nv0 (fun ov4 => (Q6.k0 N K) (.exit 0) (Q6.sx0_0 ov4)) m i1 gv2) := by
  intro m
  induction m with
  | zero => intros; rfl
  | succ m ih =>
    intro i1 gv2
    refine (Q6.b0_eq N K (fun s => xloop (xcode (E6 N) ents Q6.kp 0 N (cL (cK (cB (cA (cB (cB Q6.bd)))))) 0) Q6.kp 0 0 m s (Q6.k0 N K)) nv0 i1 gv2).trans ?_
    simp only [ih]
    kernel_rfl
theorem Q6.s_eq {ρ : Type} (N : Nat) (K : AV → Heap → Option ρ) (nv0 : Int) :
    xbody (E6 N) ents Q6.kp N Try.f51 Q6.bd [.int .i64 (nv0)] [] K = (Q6.s N (fun d0 => K (.agg [⟨.u8, 64, d0⟩]) []) (fun i1 gv2 => xloop (xcode (E6 N) ents Q6.kp 0 N (cL (cK (cB (cA (cB (cB Q6.bd)))))) 0) Q6.kp 0 0 N (Q6.st0 nv0 i1 gv2) (Q6.k0 N K))) := by kernel_rfl
theorem Q6.eq {ρ : Type} (N : Nat) (K : AV → Heap → Option ρ) (nv0 : Int) :
    xbody (E6 N) ents Q6.kp N Try.f51 Q6.bd [.int .i64 (nv0)] [] K = (Q6 N (fun d0 => K (.agg [⟨.u8, 64, d0⟩]) []) nv0) := by
  refine (Q6.s_eq N K nv0).trans ?_
  simp only [Q6.l0_eq, Q6.a0_0_eq]
  kernel_rfl
def Q6.en (N : Nat) (ρ : Type) : List AV → Heap → (AV → Heap → Option ρ) → Option ρ
  | [.int .i64 (nv0)], [], K => (Q6 N (fun d0 => K (.agg [⟨.u8, 64, d0⟩]) []) nv0)
  | _, _, _ => none
theorem Q6.en_ok (N : Nat) (hE : EnvOk (E6 N) ents) (ρ : Type) (args : List AV) (sh : Heap) (K : AV → Heap → Option ρ) (r : ρ) (h : Q6.en N ρ args sh K = some r) : ∃ v sh', K v sh' = some r ∧ FnOk (E6 N).P 51 args sh v sh' := by
  unfold Q6.en at h
  split at h
  · exact fn_ok hE (kp := Q6.kp) (N := N) Try.func51 (c := Q6.bd) (by kernel_rfl) ((Q6.eq N _ _).trans h)
  · cases h
def E7 (N : Nat) : Env := (E6 N).add 51 (Q6.en N)
theorem E7_ok (N : Nat) : EnvOk (E7 N) ents := Env.add_ok (E6_ok N) (Q6.en_ok N (E6_ok N))
def Q7.kp : Keeps := ⟨[], [], []⟩
def Q7.bd : Code := bodyOf Try.f26
def Q7.fin {ρ : Type} (N : Nat) (K : AV → Heap → Option ρ) : XE → St → Option ρ := finK (E7 N) Q7.kp.fins Try.f26 [] K
theorem Q7.eq {ρ : Type} (N : Nat) (K : AV → Heap → Option ρ) (p0 : Int) :
    xbody (E7 N) ents Q7.kp N Try.f26 Q7.bd [.int .i64 (p0)] [] K = (Q7 N (fun d0 d1 => K (.agg [⟨.i64, 2, d0⟩, ⟨.u8, 1104, d1⟩]) []) p0) := by kernel_rfl
def Q7.en (N : Nat) (ρ : Type) : List AV → Heap → (AV → Heap → Option ρ) → Option ρ
  | [.int .i64 (p0)], [], K => (Q7 N (fun d0 d1 => K (.agg [⟨.i64, 2, d0⟩, ⟨.u8, 1104, d1⟩]) []) p0)
  | _, _, _ => none
theorem Q7.en_ok (N : Nat) (hE : EnvOk (E7 N) ents) (ρ : Type) (args : List AV) (sh : Heap) (K : AV → Heap → Option ρ) (r : ρ) (h : Q7.en N ρ args sh K = some r) : ∃ v sh', K v sh' = some r ∧ FnOk (E7 N).P 26 args sh v sh' := by
  unfold Q7.en at h
  split at h
  · exact fn_ok hE (kp := Q7.kp) (N := N) Try.func26 (c := Q7.bd) (by kernel_rfl) ((Q7.eq N _ _).trans h)
  · cases h
def E8 (N : Nat) : Env := (E7 N).add 26 (Q7.en N)
theorem E8_ok (N : Nat) : EnvOk (E8 N) ents := Env.add_ok (E7_ok N) (Q7.en_ok N (E7_ok N))
def Q8.kp : Keeps := ⟨[], [], []⟩
def Q8.bd : Code := bodyOf Try.f8
def Q8.fin {ρ : Type} (N : Nat) (K : AV → Heap → Option ρ) : XE → St → Option ρ := finK (E8 N) Q8.kp.fins Try.f8 [] K
theorem Q8.eq {ρ : Type} (N : Nat) (K : AV → Heap → Option ρ) (p0 : Int) :
    xbody (E8 N) ents Q8.kp N Try.f8 Q8.bd [.int .i64 (p0)] [] K = (Q8 N (fun d0 d1 d2 => K (.tup [.agg [⟨.i64, 2, d0⟩, ⟨.u8, 1104, d1⟩], .int .i64 (d2)]) []) p0) := by kernel_rfl
def Q8.en (N : Nat) (ρ : Type) : List AV → Heap → (AV → Heap → Option ρ) → Option ρ
  | [.int .i64 (p0)], [], K => (Q8 N (fun d0 d1 d2 => K (.tup [.agg [⟨.i64, 2, d0⟩, ⟨.u8, 1104, d1⟩], .int .i64 (d2)]) []) p0)
  | _, _, _ => none
theorem Q8.en_ok (N : Nat) (hE : EnvOk (E8 N) ents) (ρ : Type) (args : List AV) (sh : Heap) (K : AV → Heap → Option ρ) (r : ρ) (h : Q8.en N ρ args sh K = some r) : ∃ v sh', K v sh' = some r ∧ FnOk (E8 N).P 8 args sh v sh' := by
  unfold Q8.en at h
  split at h
  · exact fn_ok hE (kp := Q8.kp) (N := N) Try.func8 (c := Q8.bd) (by kernel_rfl) ((Q8.eq N _ _).trans h)
  · cases h
def E9 (N : Nat) : Env := (E8 N).add 8 (Q8.en N)
theorem E9_ok (N : Nat) : EnvOk (E9 N) ents := Env.add_ok (E8_ok N) (Q8.en_ok N (E8_ok N))
def Q9.kp : Keeps := ⟨[(0, [0, 3, 5, 6, 8, 9], [], [])], [(0, [5, 8], [], [])], []⟩
def Q9.bd : Code := bodyOf Try.f78
def Q9.fin {ρ : Type} (N : Nat) (K : AV → Heap → Option ρ) : XE → St → Option ρ := finK (E9 N) Q9.kp.fins Try.f78 [] K
def Q9.k0 {ρ : Type} (N : Nat) (K : AV → Heap → Option ρ) : XE → St → Option ρ := (blockK Q9.kp 0 0 (seqK (xcode (E9 N) ents Q9.kp 0 N (cB (cB Q9.bd)) 0) (Q9.fin N K)))
theorem Q9.k0_mix {ρ : Type} (N : Nat) (K : AV → Heap → Option ρ) : mixK (Q9.fin N K .ret) (Q9.k0 N K) = (Q9.k0 N K) := by
  funext e s; cases e <;> kernel_rfl
def Q9.st0 (p0 : Int) (w2 : Nat → Int) (k3 : Int) (i4 : Int) (gv5 : Nat → Int) : St := ⟨sl 30 [(0, .int .i64 (p0)), (3, .int .i64 (k3)), (5, .sptr [(0, 8)]), (6, .sptr [(1, 8)]), (8, .sptr [(2, 8)]), (9, .int .i64 (i4))], [⟨true, .flat 8 (.ints .u8 gv5)⟩, ⟨true, .flat 8 (.ints .u8 w2)⟩, ⟨true, .flat 8 (.ints .u8 (fun _ => 0))⟩]⟩
def Q9.sx0_0 (ov7 : Nat → Int) : St := ⟨sl 30 [(5, .sptr [(0, 8)]), (8, .sptr [(1, 8)])], [⟨true, .flat 8 (.ints .u8 ov7)⟩, ⟨true, .flat 8 (.ints .u8 (fun _ => 0))⟩]⟩
theorem Q9.b0_gen {ρ : Type} (N : Nat) (K : AV → Heap → Option ρ) (L0 : St → Option ρ) (kv : XE → St → Option ρ) (p0 : Int) (w2 : Nat → Int) (k3 : Int) (i4 : Int) (gv5 : Nat → Int) :
    xcode (E9 N) ents Q9.kp 0 N (cL (cK (cB (cA (cB Q9.bd))))) 0 (Q9.st0 p0 w2 k3 i4 gv5) (roundK Q9.kp 0 0 L0 (mixK (Q9.fin N K .ret) kv)) = (Q9.b0 N (fun d0 => K (.agg [⟨.u8, 8, d0⟩]) []) (fun i4 gv5 => L0 (Q9.st0 p0 w2 k3 i4 gv5)) (fun ov7 => kv (.exit 0) (Q9.sx0_0 ov7)) p0 w2 k3 i4 gv5) := by kernel_rfl
theorem Q9.b0_eq {ρ : Type} (N : Nat) (K : AV → Heap → Option ρ) (L0 : St → Option ρ) (p0 : Int) (w2 : Nat → Int) (k3 : Int) (i4 : Int) (gv5 : Nat → Int) :
    xcode (E9 N) ents Q9.kp 0 N (cL (cK (cB (cA (cB Q9.bd))))) 0 (Q9.st0 p0 w2 k3 i4 gv5) (roundK Q9.kp 0 0 L0 (Q9.k0 N K)) = (Q9.b0 N (fun d0 => K (.agg [⟨.u8, 8, d0⟩]) []) (fun i4 gv5 => L0 (Q9.st0 p0 w2 k3 i4 gv5)) (fun ov7 => (Q9.k0 N K) (.exit 0) (Q9.sx0_0 ov7)) p0 w2 k3 i4 gv5) := by
  have h := Q9.b0_gen N K L0 (Q9.k0 N K) p0 w2 k3 i4 gv5
  rw [Q9.k0_mix] at h
  exact h
theorem Q9.a0_0_eq {ρ : Type} (N : Nat) (K : AV → Heap → Option ρ) (ov7 : Nat → Int) :
    (Q9.k0 N K) (.exit 0) (Q9.sx0_0 ov7) = (Q9.a0_0 N (fun d0 => K (.agg [⟨.u8, 8, d0⟩]) []) ov7) := by kernel_rfl
theorem Q9.l0_eq {ρ : Type} (N : Nat) (K : AV → Heap → Option ρ) (p0 : Int) (w2 : Nat → Int) (k3 : Int) :
    ∀ (m : Nat) (i4 : Int) (gv5 : Nat → Int), xloop (xcode (E9 N) ents Q9.kp 0 N (cL (cK (cB (cA (cB Q9.bd))))) 0) Q9.kp 0 0 m (Q9.st0 p0 w2 k3 i4 gv5) (Q9.k0 N K) = (Q9.l0 N (fun d0 => K (.agg [⟨.u8, 8, d0⟩]) []) p0 w2 k3 (fun ov7 => (Q9.k0 N K) (.exit 0) (Q9.sx0_0 ov7)) m i4 gv5) := by
  intro m
  induction m with
  | zero => intros; rfl
  | succ m ih =>
    intro i4 gv5
    refine (Q9.b0_eq N K (fun s => xloop (xcode (E9 N) ents Q9.kp 0 N (cL (cK (cB (cA (cB Q9.bd))))) 0) Q9.kp 0 0 m s (Q9.k0 N K)) p0 w2 k3 i4 gv5).trans ?_
    simp only [ih]
    kernel_rfl
theorem Q9.s_eq {ρ : Type} (N : Nat) (K : AV → Heap → Option ρ) (p0 : Int) (v1 : Nat → Int) (w2 : Nat → Int) (k3 : Int) :
    xbody (E9 N) ents Q9.kp N Try.f78 Q9.bd [.int .i64 (p0), .agg [⟨.u8, 8, v1⟩], .agg [⟨.u8, 8, w2⟩], .int .i64 (k3)] [] K = (Q9.s N (fun d0 => K (.agg [⟨.u8, 8, d0⟩]) []) (fun i4 gv5 => xloop (xcode (E9 N) ents Q9.kp 0 N (cL (cK (cB (cA (cB Q9.bd))))) 0) Q9.kp 0 0 N (Q9.st0 p0 w2 k3 i4 gv5) (Q9.k0 N K)) v1) := by kernel_rfl
theorem Q9.eq {ρ : Type} (N : Nat) (K : AV → Heap → Option ρ) (p0 : Int) (v1 : Nat → Int) (w2 : Nat → Int) (k3 : Int) :
    xbody (E9 N) ents Q9.kp N Try.f78 Q9.bd [.int .i64 (p0), .agg [⟨.u8, 8, v1⟩], .agg [⟨.u8, 8, w2⟩], .int .i64 (k3)] [] K = (Q9 N (fun d0 => K (.agg [⟨.u8, 8, d0⟩]) []) p0 v1 w2 k3) := by
  refine (Q9.s_eq N K p0 v1 w2 k3).trans ?_
  simp only [Q9.l0_eq, Q9.a0_0_eq]
  kernel_rfl
def Q9.en (N : Nat) (ρ : Type) : List AV → Heap → (AV → Heap → Option ρ) → Option ρ
  | [.int .i64 (p0), .agg [⟨.u8, 8, v1⟩], .agg [⟨.u8, 8, w2⟩], .int .i64 (k3)], [], K => (Q9 N (fun d0 => K (.agg [⟨.u8, 8, d0⟩]) []) p0 v1 w2 k3)
  | _, _, _ => none
theorem Q9.en_ok (N : Nat) (hE : EnvOk (E9 N) ents) (ρ : Type) (args : List AV) (sh : Heap) (K : AV → Heap → Option ρ) (r : ρ) (h : Q9.en N ρ args sh K = some r) : ∃ v sh', K v sh' = some r ∧ FnOk (E9 N).P 78 args sh v sh' := by
  unfold Q9.en at h
  split at h
  · exact fn_ok hE (kp := Q9.kp) (N := N) Try.func78 (c := Q9.bd) (by kernel_rfl) ((Q9.eq N _ _ _ _ _).trans h)
  · cases h
def E10 (N : Nat) : Env := (E9 N).add 78 (Q9.en N)
theorem E10_ok (N : Nat) : EnvOk (E10 N) ents := Env.add_ok (E9_ok N) (Q9.en_ok N (E9_ok N))
def Q10.kp : Keeps := ⟨[(0, [0, 4, 5, 6, 7, 8], [], [])], [(0, [6, 7], [], [])], []⟩
def Q10.bd : Code := bodyOf Try.f77
def Q10.fin {ρ : Type} (N : Nat) (K : AV → Heap → Option ρ) : XE → St → Option ρ := finK (E10 N) Q10.kp.fins Try.f77 [] K
def Q10.k0 {ρ : Type} (N : Nat) (K : AV → Heap → Option ρ) : XE → St → Option ρ := (blockK Q10.kp 0 0 (seqK (xcode (E10 N) ents Q10.kp 0 N (cB (cB (cB Q10.bd))) 0) (Q10.fin N K)))
theorem Q10.k0_mix {ρ : Type} (N : Nat) (K : AV → Heap → Option ρ) : mixK (Q10.fin N K .ret) (Q10.k0 N K) = (Q10.k0 N K) := by
  funext e s; cases e <;> kernel_rfl
def Q10.st0 (p0 : Int) (v1 : Nat → Int) (w2 : Nat → Int) (j3 : Int) (gv4 : Nat → Int) : St := ⟨sl 25 [(0, .int .i64 (p0)), (4, .sptr [(0, 8)]), (5, .sptr [(1, 8)]), (6, .sptr [(2, 64)]), (7, .sptr [(3, 64)]), (8, .int .i64 (j3))], [⟨true, .flat 8 (.ints .u8 v1)⟩, ⟨true, .flat 8 (.ints .u8 w2)⟩, ⟨true, .flat 64 (.ints .u8 (fun _ => 0))⟩, ⟨true, .flat 64 (.ints .u8 gv4)⟩]⟩
def Q10.sx0_0 (ov6 : Nat → Int) : St := ⟨sl 25 [(6, .sptr [(0, 64)]), (7, .sptr [(1, 64)])], [⟨true, .flat 64 (.ints .u8 (fun _ => 0))⟩, ⟨true, .flat 64 (.ints .u8 ov6)⟩]⟩
theorem Q10.b0_gen {ρ : Type} (N : Nat) (K : AV → Heap → Option ρ) (L0 : St → Option ρ) (kv : XE → St → Option ρ) (p0 : Int) (v1 : Nat → Int) (w2 : Nat → Int) (j3 : Int) (gv4 : Nat → Int) :
    xcode (E10 N) ents Q10.kp 0 N (cL (cK (cB (cA (cB (cB Q10.bd)))))) 0 (Q10.st0 p0 v1 w2 j3 gv4) (roundK Q10.kp 0 0 L0 (mixK (Q10.fin N K .ret) kv)) = (Q10.b0 N (fun d0 => K (.agg [⟨.u8, 64, d0⟩]) []) (fun j3 gv4 => L0 (Q10.st0 p0 v1 w2 j3 gv4)) (fun ov6 => kv (.exit 0) (Q10.sx0_0 ov6)) p0 v1 w2 j3 gv4) := by kernel_rfl
theorem Q10.b0_eq {ρ : Type} (N : Nat) (K : AV → Heap → Option ρ) (L0 : St → Option ρ) (p0 : Int) (v1 : Nat → Int) (w2 : Nat → Int) (j3 : Int) (gv4 : Nat → Int) :
    xcode (E10 N) ents Q10.kp 0 N (cL (cK (cB (cA (cB (cB Q10.bd)))))) 0 (Q10.st0 p0 v1 w2 j3 gv4) (roundK Q10.kp 0 0 L0 (Q10.k0 N K)) = (Q10.b0 N (fun d0 => K (.agg [⟨.u8, 64, d0⟩]) []) (fun j3 gv4 => L0 (Q10.st0 p0 v1 w2 j3 gv4)) (fun ov6 => (Q10.k0 N K) (.exit 0) (Q10.sx0_0 ov6)) p0 v1 w2 j3 gv4) := by
  have h := Q10.b0_gen N K L0 (Q10.k0 N K) p0 v1 w2 j3 gv4
  rw [Q10.k0_mix] at h
  exact h
theorem Q10.a0_0_eq {ρ : Type} (N : Nat) (K : AV → Heap → Option ρ) (ov6 : Nat → Int) :
    (Q10.k0 N K) (.exit 0) (Q10.sx0_0 ov6) = (Q10.a0_0 N (fun d0 => K (.agg [⟨.u8, 64, d0⟩]) []) ov6) := by kernel_rfl
theorem Q10.l0_eq {ρ : Type} (N : Nat) (K : AV → Heap → Option ρ) (p0 : Int) (v1 : Nat → Int) (w2 : Nat → Int) :
    ∀ (m : Nat) (j3 : Int) (gv4 : Nat → Int), xloop (xcode (E10 N) ents Q10.kp 0 N (cL (cK (cB (cA (cB (cB Q10.bd)))))) 0) Q10.kp 0 0 m (Q10.st0 p0 v1 w2 j3 gv4) (Q10.k0 N K) = (Q10.l0 N (fun d0 => K (.agg [⟨.u8, 64, d0⟩]) []) p0 v1 w2 (fun ov6 => (Q10.k0 N K) (.exit 0) (Q10.sx0_0 ov6)) m j3 gv4) := by
  intro m
  induction m with
  | zero => intros; rfl
  | succ m ih =>
    intro j3 gv4
    refine (Q10.b0_eq N K (fun s => xloop (xcode (E10 N) ents Q10.kp 0 N (cL (cK (cB (cA (cB (cB Q10.bd)))))) 0) Q10.kp 0 0 m s (Q10.k0 N K)) p0 v1 w2 j3 gv4).trans ?_
    simp only [ih]
    kernel_rfl
theorem Q10.s_eq {ρ : Type} (N : Nat) (K : AV → Heap → Option ρ) (p0 : Int) (v1 : Nat → Int) (w2 : Nat → Int) :
    xbody (E10 N) ents Q10.kp N Try.f77 Q10.bd [.int .i64 (p0), .agg [⟨.u8, 8, v1⟩], .agg [⟨.u8, 8, w2⟩]] [] K = (Q10.s N (fun d0 => K (.agg [⟨.u8, 64, d0⟩]) []) (fun j3 gv4 => xloop (xcode (E10 N) ents Q10.kp 0 N (cL (cK (cB (cA (cB (cB Q10.bd)))))) 0) Q10.kp 0 0 N (Q10.st0 p0 v1 w2 j3 gv4) (Q10.k0 N K))) := by kernel_rfl
theorem Q10.eq {ρ : Type} (N : Nat) (K : AV → Heap → Option ρ) (p0 : Int) (v1 : Nat → Int) (w2 : Nat → Int) :
    xbody (E10 N) ents Q10.kp N Try.f77 Q10.bd [.int .i64 (p0), .agg [⟨.u8, 8, v1⟩], .agg [⟨.u8, 8, w2⟩]] [] K = (Q10 N (fun d0 => K (.agg [⟨.u8, 64, d0⟩]) []) p0 v1 w2) := by
  refine (Q10.s_eq N K p0 v1 w2).trans ?_
  simp only [Q10.l0_eq, Q10.a0_0_eq]
  kernel_rfl
def Q10.en (N : Nat) (ρ : Type) : List AV → Heap → (AV → Heap → Option ρ) → Option ρ
  | [.int .i64 (p0), .agg [⟨.u8, 8, v1⟩], .agg [⟨.u8, 8, w2⟩]], [], K => (Q10 N (fun d0 => K (.agg [⟨.u8, 64, d0⟩]) []) p0 v1 w2)
  | _, _, _ => none
theorem Q10.en_ok (N : Nat) (hE : EnvOk (E10 N) ents) (ρ : Type) (args : List AV) (sh : Heap) (K : AV → Heap → Option ρ) (r : ρ) (h : Q10.en N ρ args sh K = some r) : ∃ v sh', K v sh' = some r ∧ FnOk (E10 N).P 77 args sh v sh' := by
  unfold Q10.en at h
  split at h
  · exact fn_ok hE (kp := Q10.kp) (N := N) Try.func77 (c := Q10.bd) (by kernel_rfl) ((Q10.eq N _ _ _ _).trans h)
  · cases h
def E11 (N : Nat) : Env := (E10 N).add 77 (Q10.en N)
theorem E11_ok (N : Nat) : EnvOk (E11 N) ents := Env.add_ok (E10_ok N) (Q10.en_ok N (E10_ok N))
def Q11.kp : Keeps := ⟨[(0, [3, 4, 5, 6, 7, 8, 9], [], []), (2, [3, 4, 5, 6, 7, 8, 9, 10], [], []), (4, [3, 4, 5, 6, 7, 8, 9, 10, 11], [], []), (6, [3, 4, 5, 6, 7, 8, 9, 10, 11, 12], [], []), (8, [3, 4, 5, 6, 7, 8, 9, 10, 11, 12, 13, 14, 15], [], [])], [(0, [6, 7], [], []), (2, [3, 4, 5, 6, 7, 8, 9], [], []), (4, [3, 4, 5, 6, 7, 8, 9, 10], [], []), (6, [3, 4, 5, 6, 7, 8, 9, 10, 11], [], []), (8, [3, 4, 5, 6, 7, 8, 9, 10, 11, 12], [], [])], []⟩
def Q11.bd : Code := bodyOf Try.f53
def Q11.fin {ρ : Type} (N : Nat) (K : AV → Heap → Option ρ) : XE → St → Option ρ := finK (E11 N) Q11.kp.fins Try.f53 [] K
def Q11.k0 {ρ : Type} (N : Nat) (K : AV → Heap → Option ρ) : XE → St → Option ρ := (blockK Q11.kp 0 0 (seqK (xcode (E11 N) ents Q11.kp 0 N (cB (cB (cB Q11.bd))) 0) (Q11.fin N K)))
theorem Q11.k0_mix {ρ : Type} (N : Nat) (K : AV → Heap → Option ρ) : mixK (Q11.fin N K .ret) (Q11.k0 N K) = (Q11.k0 N K) := by
  funext e s; cases e <;> kernel_rfl
def Q11.st0 (av0 : Nat → Int) (av1 : Nat → Int) (f2 : Nat → Int) (gv3 : Nat → Int) (j4 : Int) (gv5 : Nat → Int) : St := ⟨sl 99 [(3, .sptr [(0, 2), (1, 520)]), (4, .sptr [(2, 64)]), (5, .sptr [(3, 64)]), (6, .sptr [(4, 64)]), (7, .sptr [(5, 64)]), (8, .int .i64 ((av0 1))), (9, .int .i64 (j4))], [⟨true, .flat 2 (.ints .i64 av0)⟩, ⟨true, .flat 520 (.ints .u8 av1)⟩, ⟨true, .flat 64 (.ints .u8 f2)⟩, ⟨true, .flat 64 (.ints .u8 gv3)⟩, ⟨true, .flat 64 (.ints .u8 (fun _ => 0))⟩, ⟨true, .flat 64 (.ints .u8 gv5)⟩]⟩
def Q11.sx0_0 (ov20 : Nat → Int) : St := ⟨sl 99 [(6, .sptr [(0, 64)]), (7, .sptr [(1, 64)])], [⟨true, .flat 64 (.ints .u8 (fun _ => 0))⟩, ⟨true, .flat 64 (.ints .u8 ov20)⟩]⟩
def Q11.k1g {ρ : Type} (N : Nat) (L0 : St → Option ρ) (kv : XE → St → Option ρ) : XE → St → Option ρ := (blockK Q11.kp 0 2 (blockK Q11.kp 0 1 (seqK (xcode (E11 N) ents Q11.kp 0 N (cB (cB (cL (cK (cB (cA (cB (cB Q11.bd)))))))) 0) (roundK Q11.kp 0 0 L0 kv))))
theorem Q11.k1_mix {ρ : Type} (N : Nat) (K : AV → Heap → Option ρ) (L0 : St → Option ρ) : mixK (Q11.fin N K .ret) (Q11.k1g N L0 (Q11.k0 N K)) = (Q11.k1g N L0 (Q11.k0 N K)) := by
  funext e s; cases e <;> kernel_rfl
def Q11.st1 (av0 : Nat → Int) (av1 : Nat → Int) (f2 : Nat → Int) (gv3 : Nat → Int) (j4 : Int) (k6 : Int) (gv7 : Nat → Int) : St := ⟨sl 99 [(3, .sptr [(0, 2), (1, 520)]), (4, .sptr [(2, 64)]), (5, .sptr [(3, 64)]), (6, .sptr [(4, 64)]), (7, .sptr [(5, 64)]), (8, .int .i64 ((av0 1))), (9, .int .i64 (j4)), (10, .int .i64 (k6))], [⟨true, .flat 2 (.ints .i64 av0)⟩, ⟨true, .flat 520 (.ints .u8 av1)⟩, ⟨true, .flat 64 (.ints .u8 f2)⟩, ⟨true, .flat 64 (.ints .u8 gv3)⟩, ⟨true, .flat 64 (.ints .u8 (fun _ => 0))⟩, ⟨true, .flat 64 (.ints .u8 gv7)⟩]⟩
def Q11.sx1_0 (av0 : Nat → Int) (av1 : Nat → Int) (f2 : Nat → Int) (gv3 : Nat → Int) (j4 : Int) (ov19 : Nat → Int) : St := ⟨sl 99 [(3, .sptr [(0, 2), (1, 520)]), (4, .sptr [(2, 64)]), (5, .sptr [(3, 64)]), (6, .sptr [(4, 64)]), (7, .sptr [(5, 64)]), (8, .int .i64 ((av0 1))), (9, .int .i64 (j4))], [⟨true, .flat 2 (.ints .i64 av0)⟩, ⟨true, .flat 520 (.ints .u8 av1)⟩, ⟨true, .flat 64 (.ints .u8 f2)⟩, ⟨true, .flat 64 (.ints .u8 gv3)⟩, ⟨true, .flat 64 (.ints .u8 (fun _ => 0))⟩, ⟨true, .flat 64 (.ints .u8 ov19)⟩]⟩
def Q11.k2g {ρ : Type} (N : Nat) (L1 : St → Option ρ) (kv : XE → St → Option ρ) : XE → St → Option ρ := (blockK Q11.kp 0 4 (blockK Q11.kp 0 3 (seqK (xcode (E11 N) ents Q11.kp 0 N (cB (cB (cL (cK (cB (cK (cA (cB (cL (cK (cB (cA (cB (cB Q11.bd)))))))))))))) 2) (roundK Q11.kp 0 2 L1 kv))))
theorem Q11.k2_mix {ρ : Type} (N : Nat) (K : AV → Heap → Option ρ) (L0 : St → Option ρ) (L1 : St → Option ρ) : mixK (Q11.fin N K .ret) (Q11.k2g N L1 (Q11.k1g N L0 (Q11.k0 N K))) = (Q11.k2g N L1 (Q11.k1g N L0 (Q11.k0 N K))) := by
  funext e s; cases e <;> kernel_rfl
def Q11.st2 (av0 : Nat → Int) (av1 : Nat → Int) (f2 : Nat → Int) (gv3 : Nat → Int) (j4 : Int) (k6 : Int) (lv8 : Int) (gv9 : Nat → Int) : St := ⟨sl 99 [(3, .sptr [(0, 2), (1, 520)]), (4, .sptr [(2, 64)]), (5, .sptr [(3, 64)]), (6, .sptr [(4, 64)]), (7, .sptr [(5, 64)]), (8, .int .i64 ((av0 1))), (9, .int .i64 (j4)), (10, .int .i64 (k6)), (11, .int .i64 (lv8))], [⟨true, .flat 2 (.ints .i64 av0)⟩, ⟨true, .flat 520 (.ints .u8 av1)⟩, ⟨true, .flat 64 (.ints .u8 f2)⟩, ⟨true, .flat 64 (.ints .u8 gv3)⟩, ⟨true, .flat 64 (.ints .u8 (fun _ => 0))⟩, ⟨true, .flat 64 (.ints .u8 gv9)⟩]⟩
def Q11.sx2_0 (av0 : Nat → Int) (av1 : Nat → Int) (f2 : Nat → Int) (gv3 : Nat → Int) (j4 : Int) (k6 : Int) (ov18 : Nat → Int) : St := ⟨sl 99 [(3, .sptr [(0, 2), (1, 520)]), (4, .sptr [(2, 64)]), (5, .sptr [(3, 64)]), (6, .sptr [(4, 64)]), (7, .sptr [(5, 64)]), (8, .int .i64 ((av0 1))), (9, .int .i64 (j4)), (10, .int .i64 (k6))], [⟨true, .flat 2 (.ints .i64 av0)⟩, ⟨true, .flat 520 (.ints .u8 av1)⟩, ⟨true, .flat 64 (.ints .u8 f2)⟩, ⟨true, .flat 64 (.ints .u8 gv3)⟩, ⟨true, .flat 64 (.ints .u8 (fun _ => 0))⟩, ⟨true, .flat 64 (.ints .u8 ov18)⟩]⟩
def Q11.k3g {ρ : Type} (N : Nat) (L2 : St → Option ρ) (kv : XE → St → Option ρ) : XE → St → Option ρ := (blockK Q11.kp 0 6 (blockK Q11.kp 0 5 (seqK (xcode (E11 N) ents Q11.kp 0 N (cB (cB (cL (cK (cB (cK (cA (cB (cL (cK (cB (cK (cA (cB (cL (cK (cB (cA (cB (cB Q11.bd)))))))))))))))))))) 4) (roundK Q11.kp 0 4 L2 kv))))
theorem Q11.k3_mix {ρ : Type} (N : Nat) (K : AV → Heap → Option ρ) (L0 : St → Option ρ) (L1 : St → Option ρ) (L2 : St → Option ρ) : mixK (Q11.fin N K .ret) (Q11.k3g N L2 (Q11.k2g N L1 (Q11.k1g N L0 (Q11.k0 N K)))) = (Q11.k3g N L2 (Q11.k2g N L1 (Q11.k1g N L0 (Q11.k0 N K)))) := by
  funext e s; cases e <;> kernel_rfl
def Q11.st3 (av0 : Nat → Int) (av1 : Nat → Int) (f2 : Nat → Int) (gv3 : Nat → Int) (j4 : Int) (k6 : Int) (lv8 : Int) (mv10 : Int) (gv11 : Nat → Int) : St := ⟨sl 99 [(3, .sptr [(0, 2), (1, 520)]), (4, .sptr [(2, 64)]), (5, .sptr [(3, 64)]), (6, .sptr [(4, 64)]), (7, .sptr [(5, 64)]), (8, .int .i64 ((av0 1))), (9, .int .i64 (j4)), (10, .int .i64 (k6)), (11, .int .i64 (lv8)), (12, .int .i64 (mv10))], [⟨true, .flat 2 (.ints .i64 av0)⟩, ⟨true, .flat 520 (.ints .u8 av1)⟩, ⟨true, .flat 64 (.ints .u8 f2)⟩, ⟨true, .flat 64 (.ints .u8 gv3)⟩, ⟨true, .flat 64 (.ints .u8 (fun _ => 0))⟩, ⟨true, .flat 64 (.ints .u8 gv11)⟩]⟩
def Q11.sx3_0 (av0 : Nat → Int) (av1 : Nat → Int) (f2 : Nat → Int) (gv3 : Nat → Int) (j4 : Int) (k6 : Int) (lv8 : Int) (ov17 : Nat → Int) : St := ⟨sl 99 [(3, .sptr [(0, 2), (1, 520)]), (4, .sptr [(2, 64)]), (5, .sptr [(3, 64)]), (6, .sptr [(4, 64)]), (7, .sptr [(5, 64)]), (8, .int .i64 ((av0 1))), (9, .int .i64 (j4)), (10, .int .i64 (k6)), (11, .int .i64 (lv8))], [⟨true, .flat 2 (.ints .i64 av0)⟩, ⟨true, .flat 520 (.ints .u8 av1)⟩, ⟨true, .flat 64 (.ints .u8 f2)⟩, ⟨true, .flat 64 (.ints .u8 gv3)⟩, ⟨true, .flat 64 (.ints .u8 (fun _ => 0))⟩, ⟨true, .flat 64 (.ints .u8 ov17)⟩]⟩
def Q11.k4g {ρ : Type} (N : Nat) (L3 : St → Option ρ) (kv : XE → St → Option ρ) : XE → St → Option ρ := (blockK Q11.kp 0 8 (blockK Q11.kp 0 7 (seqK (xcode (E11 N) ents Q11.kp 0 N (cB (cB (cL (cK (cB (cK (cA (cB (cL (cK (cB (cK (cA (cB (cL (cK (cB (cK (cA (cB (cL (cK (cB (cA (cB (cB Q11.bd)))))))))))))))))))))))))) 6) (roundK Q11.kp 0 6 L3 kv))))
theorem Q11.k4_mix {ρ : Type} (N : Nat) (K : AV → Heap → Option ρ) (L0 : St → Option ρ) (L1 : St → Option ρ) (L2 : St → Option ρ) (L3 : St → Option ρ) : mixK (Q11.fin N K .ret) (Q11.k4g N L3 (Q11.k3g N L2 (Q11.k2g N L1 (Q11.k1g N L0 (Q11.k0 N K))))) = (Q11.k4g N L3 (Q11.k3g N L2 (Q11.k2g N L1 (Q11.k1g N L0 (Q11.k0 N K))))) := by
  funext e s; cases e <;> kernel_rfl
def Q11.st4 (av0 : Nat → Int) (av1 : Nat → Int) (f2 : Nat → Int) (gv3 : Nat → Int) (j4 : Int) (k6 : Int) (lv8 : Int) (mv10 : Int) (rv12 : Nat → Int) (i13 : Int) (gv14 : Nat → Int) : St := ⟨sl 99 [(3, .sptr [(0, 2), (1, 520)]), (4, .sptr [(2, 64)]), (5, .sptr [(3, 64)]), (6, .sptr [(4, 64)]), (7, .sptr [(5, 64)]), (8, .int .i64 ((av0 1))), (9, .int .i64 (j4)), (10, .int .i64 (k6)), (11, .int .i64 (lv8)), (12, .int .i64 (mv10)), (13, .sptr [(6, 64)]), (14, .int .i64 ((IntKind.i64.wrap ((IntKind.i64.wrap (f2 ((j4.toNat * 8) + (k6.toNat * 1)))) * (IntKind.i64.wrap (gv3 ((lv8.toNat * 8) + (mv10.toNat * 1)))))))), (15, .int .i64 (i13))], [⟨true, .flat 2 (.ints .i64 av0)⟩, ⟨true, .flat 520 (.ints .u8 av1)⟩, ⟨true, .flat 64 (.ints .u8 f2)⟩, ⟨true, .flat 64 (.ints .u8 gv3)⟩, ⟨true, .flat 64 (.ints .u8 (fun _ => 0))⟩, ⟨true, .flat 64 (.ints .u8 gv14)⟩, ⟨true, .flat 64 (.ints .u8 rv12)⟩]⟩
def Q11.sx4_0 (av0 : Nat → Int) (av1 : Nat → Int) (f2 : Nat → Int) (gv3 : Nat → Int) (j4 : Int) (k6 : Int) (lv8 : Int) (mv10 : Int) (ov16 : Nat → Int) : St := ⟨sl 99 [(3, .sptr [(0, 2), (1, 520)]), (4, .sptr [(2, 64)]), (5, .sptr [(3, 64)]), (6, .sptr [(4, 64)]), (7, .sptr [(5, 64)]), (8, .int .i64 ((av0 1))), (9, .int .i64 (j4)), (10, .int .i64 (k6)), (11, .int .i64 (lv8)), (12, .int .i64 (mv10))], [⟨true, .flat 2 (.ints .i64 av0)⟩, ⟨true, .flat 520 (.ints .u8 av1)⟩, ⟨true, .flat 64 (.ints .u8 f2)⟩, ⟨true, .flat 64 (.ints .u8 gv3)⟩, ⟨true, .flat 64 (.ints .u8 (fun _ => 0))⟩, ⟨true, .flat 64 (.ints .u8 ov16)⟩]⟩
theorem Q11.b4_gen {ρ : Type} (N : Nat) (K : AV → Heap → Option ρ) (L4 : St → Option ρ) (kv : XE → St → Option ρ) (av0 : Nat → Int) (av1 : Nat → Int) (f2 : Nat → Int) (gv3 : Nat → Int) (j4 : Int) (k6 : Int) (lv8 : Int) (mv10 : Int) (rv12 : Nat → Int) (i13 : Int) (gv14 : Nat → Int) :
    xcode (E11 N) ents Q11.kp 0 N (cL (cK (cB (cB (cB (cB (cK (cA (cB (cL (cK (cB (cK (cA (cB (cL (cK (cB (cK (cA (cB (cL (cK (cB (cK (cA (cB (cL (cK (cB (cA (cB (cB Q11.bd))))))))))))))))))))))))))))))))) 8 (Q11.st4 av0 av1 f2 gv3 j4 k6 lv8 mv10 rv12 i13 gv14) (roundK Q11.kp 0 8 L4 (mixK (Q11.fin N K .ret) kv)) = (Q11.b4 N (fun d0 => K (.agg [⟨.u8, 64, d0⟩]) []) (fun i13 gv14 => L4 (Q11.st4 av0 av1 f2 gv3 j4 k6 lv8 mv10 rv12 i13 gv14)) (fun ov16 => kv (.exit 8) (Q11.sx4_0 av0 av1 f2 gv3 j4 k6 lv8 mv10 ov16)) av0 f2 gv3 j4 k6 lv8 mv10 rv12 i13 gv14) := by kernel_rfl
theorem Q11.b4_eq {ρ : Type} (N : Nat) (K : AV → Heap → Option ρ) (L0 : St → Option ρ) (L1 : St → Option ρ) (L2 : St → Option ρ) (L3 : St → Option ρ) (L4 : St → Option ρ) (av0 : Nat → Int) (av1 : Nat → Int) (f2 : Nat → Int) (gv3 : Nat → Int) (j4 : Int) (k6 : Int) (lv8 : Int) (mv10 : Int) (rv12 : Nat → Int) (i13 : Int) (gv14 : Nat → Int) :
    xcode (E11 N) ents Q11.kp 0 N (cL (cK (cB (cB (cB (cB (cK (cA (cB (cL (cK (cB (cK (cA (cB (cL (cK (cB (cK (cA (cB (cL (cK (cB (cK (cA (cB (cL (cK (cB (cA (cB (cB Q11.bd))))))))))))))))))))))))))))))))) 8 (Q11.st4 av0 av1 f2 gv3 j4 k6 lv8 mv10 rv12 i13 gv14) (roundK Q11.kp 0 8 L4 (Q11.k4g N L3 (Q11.k3g N L2 (Q11.k2g N L1 (Q11.k1g N L0 (Q11.k0 N K)))))) = (Q11.b4 N (fun d0 => K (.agg [⟨.u8, 64, d0⟩]) []) (fun i13 gv14 => L4 (Q11.st4 av0 av1 f2 gv3 j4 k6 lv8 mv10 rv12 i13 gv14)) (fun ov16 => (Q11.k4g N L3 (Q11.k3g N L2 (Q11.k2g N L1 (Q11.k1g N L0 (Q11.k0 N K))))) (.exit 8) (Q11.sx4_0 av0 av1 f2 gv3 j4 k6 lv8 mv10 ov16)) av0 f2 gv3 j4 k6 lv8 mv10 rv12 i13 gv14) := by
  have h := Q11.b4_gen N K L4 (Q11.k4g N L3 (Q11.k3g N L2 (Q11.k2g N L1 (Q11.k1g N L0 (Q11.k0 N K))))) av0 av1 f2 gv3 j4 k6 lv8 mv10 rv12 i13 gv14
  rw [Q11.k4_mix] at h
  exact h
theorem Q11.a4_0_gen {ρ : Type} (N : Nat) (K : AV → Heap → Option ρ) (L3 : St → Option ρ) (kv : XE → St → Option ρ) (av0 : Nat → Int) (av1 : Nat → Int) (f2 : Nat → Int) (gv3 : Nat → Int) (j4 : Int) (k6 : Int) (lv8 : Int) (mv10 : Int) (ov16 : Nat → Int) :
    (Q11.k4g N L3 (mixK (Q11.fin N K .ret) kv)) (.exit 8) (Q11.sx4_0 av0 av1 f2 gv3 j4 k6 lv8 mv10 ov16) = (Q11.a4_0 N (fun d0 => K (.agg [⟨.u8, 64, d0⟩]) []) (fun mv10 gv11 => L3 (Q11.st3 av0 av1 f2 gv3 j4 k6 lv8 mv10 gv11)) (fun ov17 => kv (.exit 6) (Q11.sx3_0 av0 av1 f2 gv3 j4 k6 lv8 ov17)) mv10 ov16) := by kernel_rfl
theorem Q11.a4_0_eq {ρ : Type} (N : Nat) (K : AV → Heap → Option ρ) (L0 : St → Option ρ) (L1 : St → Option ρ) (L2 : St → Option ρ) (L3 : St → Option ρ) (av0 : Nat → Int) (av1 : Nat → Int) (f2 : Nat → Int) (gv3 : Nat → Int) (j4 : Int) (k6 : Int) (lv8 : Int) (mv10 : Int) (ov16 : Nat → Int) :
    (Q11.k4g N L3 (Q11.k3g N L2 (Q11.k2g N L1 (Q11.k1g N L0 (Q11.k0 N K))))) (.exit 8) (Q11.sx4_0 av0 av1 f2 gv3 j4 k6 lv8 mv10 ov16) = (Q11.a4_0 N (fun d0 => K (.agg [⟨.u8, 64, d0⟩]) []) (fun mv10 gv11 => L3 (Q11.st3 av0 av1 f2 gv3 j4 k6 lv8 mv10 gv11)) (fun ov17 => (Q11.k3g N L2 (Q11.k2g N L1 (Q11.k1g N L0 (Q11.k0 N K)))) (.exit 6) (Q11.sx3_0 av0 av1 f2 gv3 j4 k6 lv8 ov17)) mv10 ov16) := by
  have h := Q11.a4_0_gen N K L3 (Q11.k3g N L2 (Q11.k2g N L1 (Q11.k1g N L0 (Q11.k0 N K)))) av0 av1 f2 gv3 j4 k6 lv8 mv10 ov16
  rw [Q11.k3_mix] at h
  exact h
theorem Q11.b3_gen {ρ : Type} (N : Nat) (K : AV → Heap → Option ρ) (L3 : St → Option ρ) (kv : XE → St → Option ρ) (av0 : Nat → Int) (av1 : Nat → Int) (f2 : Nat → Int) (gv3 : Nat → Int) (j4 : Int) (k6 : Int) (lv8 : Int) (mv10 : Int) (gv11 : Nat → Int) :
    xcode (E11 N) ents Q11.kp 0 N (cL (cK (cB (cK (cA (cB (cL (cK (cB (cK (cA (cB (cL (cK (cB (cK (cA (cB (cL (cK (cB (cA (cB (cB Q11.bd)))))))))))))))))))))))) 6 (Q11.st3 av0 av1 f2 gv3 j4 k6 lv8 mv10 gv11) (roundK Q11.kp 0 6 L3 (mixK (Q11.fin N K .ret) kv)) = (Q11.b3 N (fun d0 => K (.agg [⟨.u8, 64, d0⟩]) []) (fun rv12 i13 gv14 => xloop (xcode (E11 N) ents Q11.kp 0 N (cL (cK (cB (cB (cB (cB (cK (cA (cB (cL (cK (cB (cK (cA (cB (cL (cK (cB (cK (cA (cB (cL (cK (cB (cK (cA (cB (cL (cK (cB (cA (cB (cB Q11.bd))))))))))))))))))))))))))))))))) 8) Q11.kp 0 8 N (Q11.st4 av0 av1 f2 gv3 j4 k6 lv8 mv10 rv12 i13 gv14) (Q11.k4g N L3 (mixK (Q11.fin N K .ret) kv))) (fun mv10 gv11 => L3 (Q11.st3 av0 av1 f2 gv3 j4 k6 lv8 mv10 gv11)) (fun ov17 => kv (.exit 6) (Q11.sx3_0 av0 av1 f2 gv3 j4 k6 lv8 ov17)) av0 av1 gv3 j4 k6 lv8 mv10 gv11) := by kernel_rfl
theorem Q11.b3_eq {ρ : Type} (N : Nat) (K : AV → Heap → Option ρ) (L0 : St → Option ρ) (L1 : St → Option ρ) (L2 : St → Option ρ) (L3 : St → Option ρ) (av0 : Nat → Int) (av1 : Nat → Int) (f2 : Nat → Int) (gv3 : Nat → Int) (j4 : Int) (k6 : Int) (lv8 : Int) (mv10 : Int) (gv11 : Nat → Int) :
    xcode (E11 N) ents Q11.kp 0 N (cL (cK (cB (cK (cA (cB (cL (cK (cB (cK (cA (cB (cL (cK (cB (cK (cA (cB (cL (cK (cB (cA (cB (cB Q11.bd)))))))))))))))))))))))) 6 (Q11.st3 av0 av1 f2 gv3 j4 k6 lv8 mv10 gv11) (roundK Q11.kp 0 6 L3 (Q11.k3g N L2 (Q11.k2g N L1 (Q11.k1g N L0 (Q11.k0 N K))))) = (Q11.b3 N (fun d0 => K (.agg [⟨.u8, 64, d0⟩]) []) (fun rv12 i13 gv14 => xloop (xcode (E11 N) ents Q11.kp 0 N (cL (cK (cB (cB (cB (cB (cK (cA (cB (cL (cK (cB (cK (cA (cB (cL (cK (cB (cK (cA (cB (cL (cK (cB (cK (cA (cB (cL (cK (cB (cA (cB (cB Q11.bd))))))))))))))))))))))))))))))))) 8) Q11.kp 0 8 N (Q11.st4 av0 av1 f2 gv3 j4 k6 lv8 mv10 rv12 i13 gv14) (Q11.k4g N L3 (Q11.k3g N L2 (Q11.k2g N L1 (Q11.k1g N L0 (Q11.k0 N K)))))) (fun mv10 gv11 => L3 (Q11.st3 av0 av1 f2 gv3 j4 k6 lv8 mv10 gv11)) (fun ov17 => (Q11.k3g N L2 (Q11.k2g N L1 (Q11.k1g N L0 (Q11.k0 N K)))) (.exit 6) (Q11.sx3_0 av0 av1 f2 gv3 j4 k6 lv8 ov17)) av0 av1 gv3 j4 k6 lv8 mv10 gv11) := by
  have h := Q11.b3_gen N K L3 (Q11.k3g N L2 (Q11.k2g N L1 (Q11.k1g N L0 (Q11.k0 N K)))) av0 av1 f2 gv3 j4 k6 lv8 mv10 gv11
  rw [Q11.k3_mix] at h
  exact h
theorem Q11.a3_0_gen {ρ : Type} (N : Nat) (K : AV → Heap → Option ρ) (L2 : St → Option ρ) (kv : XE → St → Option ρ) (av0 : Nat → Int) (av1 : Nat → Int) (f2 : Nat → Int) (gv3 : Nat → Int) (j4 : Int) (k6 : Int) (lv8 : Int) (ov17 : Nat → Int) :
    (Q11.k3g N L2 (mixK (Q11.fin N K .ret) kv)) (.exit 6) (Q11.sx3_0 av0 av1 f2 gv3 j4 k6 lv8 ov17) = (Q11.a3_0 N (fun d0 => K (.agg [⟨.u8, 64, d0⟩]) []) (fun lv8 gv9 => L2 (Q11.st2 av0 av1 f2 gv3 j4 k6 lv8 gv9)) (fun ov18 => kv (.exit 4) (Q11.sx2_0 av0 av1 f2 gv3 j4 k6 ov18)) lv8 ov17) := by kernel_rfl
theorem Q11.a3_0_eq {ρ : Type} (N : Nat) (K : AV → Heap → Option ρ) (L0 : St → Option ρ) (L1 : St → Option ρ) (L2 : St → Option ρ) (av0 : Nat → Int) (av1 : Nat → Int) (f2 : Nat → Int) (gv3 : Nat → Int) (j4 : Int) (k6 : Int) (lv8 : Int) (ov17 : Nat → Int) :
    (Q11.k3g N L2 (Q11.k2g N L1 (Q11.k1g N L0 (Q11.k0 N K)))) (.exit 6) (Q11.sx3_0 av0 av1 f2 gv3 j4 k6 lv8 ov17) = (Q11.a3_0 N (fun d0 => K (.agg [⟨.u8, 64, d0⟩]) []) (fun lv8 gv9 => L2 (Q11.st2 av0 av1 f2 gv3 j4 k6 lv8 gv9)) (fun ov18 => (Q11.k2g N L1 (Q11.k1g N L0 (Q11.k0 N K))) (.exit 4) (Q11.sx2_0 av0 av1 f2 gv3 j4 k6 ov18)) lv8 ov17) := by
  have h := Q11.a3_0_gen N K L2 (Q11.k2g N L1 (Q11.k1g N L0 (Q11.k0 N K))) av0 av1 f2 gv3 j4 k6 lv8 ov17
  rw [Q11.k2_mix] at h
  exact h
theorem Q11.b2_gen {ρ : Type} (N : Nat) (K : AV → Heap → Option ρ) (L2 : St → Option ρ) (kv : XE → St → Option ρ) (av0 : Nat → Int) (av1 : Nat → Int) (f2 : Nat → Int) (gv3 : Nat → Int) (j4 : Int) (k6 : Int) (lv8 : Int) (gv9 : Nat → Int) :
    xcode (E11 N) ents Q11.kp 0 N (cL (cK (cB (cK (cA (cB (cL (cK (cB (cK (cA (cB (cL (cK (cB (cA (cB (cB Q11.bd)))))))))))))))))) 4 (Q11.st2 av0 av1 f2 gv3 j4 k6 lv8 gv9) (roundK Q11.kp 0 4 L2 (mixK (Q11.fin N K .ret) kv)) = (Q11.b2 N (fun d0 => K (.agg [⟨.u8, 64, d0⟩]) []) (fun mv10 gv11 => xloop (xcode (E11 N) ents Q11.kp 0 N (cL (cK (cB (cK (cA (cB (cL (cK (cB (cK (cA (cB (cL (cK (cB (cK (cA (cB (cL (cK (cB (cA (cB (cB Q11.bd)))))))))))))))))))))))) 6) Q11.kp 0 6 N (Q11.st3 av0 av1 f2 gv3 j4 k6 lv8 mv10 gv11) (Q11.k3g N L2 (mixK (Q11.fin N K .ret) kv))) (fun lv8 gv9 => L2 (Q11.st2 av0 av1 f2 gv3 j4 k6 lv8 gv9)) (fun ov18 => kv (.exit 4) (Q11.sx2_0 av0 av1 f2 gv3 j4 k6 ov18)) av0 f2 j4 k6 lv8 gv9) := by kernel_rfl
theorem Q11.b2_eq {ρ : Type} (N : Nat) (K : AV → Heap → Option ρ) (L0 : St → Option ρ) (L1 : St → Option ρ) (L2 : St → Option ρ) (av0 : Nat → Int) (av1 : Nat → Int) (f2 : Nat → Int) (gv3 : Nat → Int) (j4 : Int) (k6 : Int) (lv8 : Int) (gv9 : Nat → Int) :
    xcode (E11 N) ents Q11.kp 0 N (cL (cK (cB (cK (cA (cB (cL (cK (cB (cK (cA (cB (cL (cK (cB (cA (cB (cB Q11.bd)))))))))))))))))) 4 (Q11.st2 av0 av1 f2 gv3 j4 k6 lv8 gv9) (roundK Q11.kp 0 4 L2 (Q11.k2g N L1 (Q11.k1g N L0 (Q11.k0 N K)))) = (Q11.b2 N (fun d0 => K (.agg [⟨.u8, 64, d0⟩]) []) (fun mv10 gv11 => xloop (xcode (E11 N) ents Q11.kp 0 N (cL (cK (cB (cK (cA (cB (cL (cK (cB (cK (cA (cB (cL (cK (cB (cK (cA (cB (cL (cK (cB (cA (cB (cB Q11.bd)))))))))))))))))))))))) 6) Q11.kp 0 6 N (Q11.st3 av0 av1 f2 gv3 j4 k6 lv8 mv10 gv11) (Q11.k3g N L2 (Q11.k2g N L1 (Q11.k1g N L0 (Q11.k0 N K))))) (fun lv8 gv9 => L2 (Q11.st2 av0 av1 f2 gv3 j4 k6 lv8 gv9)) (fun ov18 => (Q11.k2g N L1 (Q11.k1g N L0 (Q11.k0 N K))) (.exit 4) (Q11.sx2_0 av0 av1 f2 gv3 j4 k6 ov18)) av0 f2 j4 k6 lv8 gv9) := by
  have h := Q11.b2_gen N K L2 (Q11.k2g N L1 (Q11.k1g N L0 (Q11.k0 N K))) av0 av1 f2 gv3 j4 k6 lv8 gv9
  rw [Q11.k2_mix] at h
  exact h
theorem Q11.a2_0_gen {ρ : Type} (N : Nat) (K : AV → Heap → Option ρ) (L1 : St → Option ρ) (kv : XE → St → Option ρ) (av0 : Nat → Int) (av1 : Nat → Int) (f2 : Nat → Int) (gv3 : Nat → Int) (j4 : Int) (k6 : Int) (ov18 : Nat → Int) :
    (Q11.k2g N L1 (mixK (Q11.fin N K .ret) kv)) (.exit 4) (Q11.sx2_0 av0 av1 f2 gv3 j4 k6 ov18) = (Q11.a2_0 N (fun d0 => K (.agg [⟨.u8, 64, d0⟩]) []) (fun k6 gv7 => L1 (Q11.st1 av0 av1 f2 gv3 j4 k6 gv7)) (fun ov19 => kv (.exit 2) (Q11.sx1_0 av0 av1 f2 gv3 j4 ov19)) k6 ov18) := by kernel_rfl
theorem Q11.a2_0_eq {ρ : Type} (N : Nat) (K : AV → Heap → Option ρ) (L0 : St → Option ρ) (L1 : St → Option ρ) (av0 : Nat → Int) (av1 : Nat → Int) (f2 : Nat → Int) (gv3 : Nat → Int) (j4 : Int) (k6 : Int) (ov18 : Nat → Int) :
    (Q11.k2g N L1 (Q11.k1g N L0 (Q11.k0 N K))) (.exit 4) (Q11.sx2_0 av0 av1 f2 gv3 j4 k6 ov18) = (Q11.a2_0 N (fun d0 => K (.agg [⟨.u8, 64, d0⟩]) []) (fun k6 gv7 => L1 (Q11.st1 av0 av1 f2 gv3 j4 k6 gv7)) (fun ov19 => (Q11.k1g N L0 (Q11.k0 N K)) (.exit 2) (Q11.sx1_0 av0 av1 f2 gv3 j4 ov19)) k6 ov18) := by
  have h := Q11.a2_0_gen N K L1 (Q11.k1g N L0 (Q11.k0 N K)) av0 av1 f2 gv3 j4 k6 ov18
  rw [Q11.k1_mix] at h
  exact h
theorem Q11.b1_gen {ρ : Type} (N : Nat) (K : AV → Heap → Option ρ) (L1 : St → Option ρ) (kv : XE → St → Option ρ) (av0 : Nat → Int) (av1 : Nat → Int) (f2 : Nat → Int) (gv3 : Nat → Int) (j4 : Int) (k6 : Int) (gv7 : Nat → Int) :
    xcode (E11 N) ents Q11.kp 0 N (cL (cK (cB (cK (cA (cB (cL (cK (cB (cA (cB (cB Q11.bd)))))))))))) 2 (Q11.st1 av0 av1 f2 gv3 j4 k6 gv7) (roundK Q11.kp 0 2 L1 (mixK (Q11.fin N K .ret) kv)) = (Q11.b1 N (fun d0 => K (.agg [⟨.u8, 64, d0⟩]) []) (fun lv8 gv9 => xloop (xcode (E11 N) ents Q11.kp 0 N (cL (cK (cB (cK (cA (cB (cL (cK (cB (cK (cA (cB (cL (cK (cB (cA (cB (cB Q11.bd)))))))))))))))))) 4) Q11.kp 0 4 N (Q11.st2 av0 av1 f2 gv3 j4 k6 lv8 gv9) (Q11.k2g N L1 (mixK (Q11.fin N K .ret) kv))) (fun k6 gv7 => L1 (Q11.st1 av0 av1 f2 gv3 j4 k6 gv7)) (fun ov19 => kv (.exit 2) (Q11.sx1_0 av0 av1 f2 gv3 j4 ov19)) av0 k6 gv7) := by kernel_rfl
theorem Q11.b1_eq {ρ : Type} (N : Nat) (K : AV → Heap → Option ρ) (L0 : St → Option ρ) (L1 : St → Option ρ) (av0 : Nat → Int) (av1 : Nat → Int) (f2 : Nat → Int) (gv3 : Nat → Int) (j4 : Int) (k6 : Int) (gv7 : Nat → Int) :
    xcode (E11 N) ents Q11.kp 0 N (cL (cK (cB (cK (cA (cB (cL (cK (cB (cA (cB (cB Q11.bd)))))))))))) 2 (Q11.st1 av0 av1 f2 gv3 j4 k6 gv7) (roundK Q11.kp 0 2 L1 (Q11.k1g N L0 (Q11.k0 N K))) = (Q11.b1 N (fun d0 => K (.agg [⟨.u8, 64, d0⟩]) []) (fun lv8 gv9 => xloop (xcode (E11 N) ents Q11.kp 0 N (cL (cK (cB (cK (cA (cB (cL (cK (cB (cK (cA (cB (cL (cK (cB (cA (cB (cB Q11.bd)))))))))))))))))) 4) Q11.kp 0 4 N (Q11.st2 av0 av1 f2 gv3 j4 k6 lv8 gv9) (Q11.k2g N L1 (Q11.k1g N L0 (Q11.k0 N K)))) (fun k6 gv7 => L1 (Q11.st1 av0 av1 f2 gv3 j4 k6 gv7)) (fun ov19 => (Q11.k1g N L0 (Q11.k0 N K)) (.exit 2) (Q11.sx1_0 av0 av1 f2 gv3 j4 ov19)) av0 k6 gv7) := by
  have h := Q11.b1_gen N K L1 (Q11.k1g N L0 (Q11.k0 N K)) av0 av1 f2 gv3 j4 k6 gv7
  rw [Q11.k1_mix] at h
  exact h
theorem Q11.a1_0_gen {ρ : Type} (N : Nat) (K : AV → Heap → Option ρ) (L0 : St → Option ρ) (kv : XE → St → Option ρ) (av0 : Nat → Int) (av1 : Nat → Int) (f2 : Nat → Int) (gv3 : Nat → Int) (j4 : Int) (ov19 : Nat → Int) :
    (Q11.k1g N L0 (mixK (Q11.fin N K .ret) kv)) (.exit 2) (Q11.sx1_0 av0 av1 f2 gv3 j4 ov19) = (Q11.a1_0 N (fun d0 => K (.agg [⟨.u8, 64, d0⟩]) []) (fun j4 gv5 => L0 (Q11.st0 av0 av1 f2 gv3 j4 gv5)) (fun ov20 => kv (.exit 0) (Q11.sx0_0 ov20)) j4 ov19) := by kernel_rfl
theorem Q11.a1_0_eq {ρ : Type} (N : Nat) (K : AV → Heap → Option ρ) (L0 : St → Option ρ) (av0 : Nat → Int) (av1 : Nat → Int) (f2 : Nat → Int) (gv3 : Nat → Int) (j4 : Int) (ov19 : Nat → Int) :
    (Q11.k1g N L0 (Q11.k0 N K)) (.exit 2) (Q11.sx1_0 av0 av1 f2 gv3 j4 ov19) = (Q11.a1_0 N (fun d0 => K (.agg [⟨.u8, 64, d0⟩]) []) (fun j4 gv5 => L0 (Q11.st0 av0 av1 f2 gv3 j4 gv5)) (fun ov20 => (Q11.k0 N K) (.exit 0) (Q11.sx0_0 ov20)) j4 ov19) := by
  have h := Q11.a1_0_gen N K L0 (Q11.k0 N K) av0 av1 f2 gv3 j4 ov19
  rw [Q11.k0_mix] at h
  exact h
theorem Q11.b0_gen {ρ : Type} (N : Nat) (K : AV → Heap → Option ρ) (L0 : St → Option ρ) (kv : XE → St → Option ρ) (av0 : Nat → Int) (av1 : Nat → Int) (f2 : Nat → Int) (gv3 : Nat → Int) (j4 : Int) (gv5 : Nat → Int) :
    xcode (E11 N) ents Q11.kp 0 N (cL (cK (cB (cA (cB (cB Q11.bd)))))) 0 (Q11.st0 av0 av1 f2 gv3 j4 gv5) (roundK Q11.kp 0 0 L0 (mixK (Q11.fin N K .ret) kv)) = (Q11.b0 N (fun d0 => K (.agg [⟨.u8, 64, d0⟩]) []) (fun k6 gv7 => xloop (xcode (E11 N) ents Q11.kp 0 N (cL (cK (cB (cK (cA (cB (cL (cK (cB (cA (cB (cB Q11.bd)))))))))))) 2) Q11.kp 0 2 N (Q11.st1 av0 av1 f2 gv3 j4 k6 gv7) (Q11.k1g N L0 (mixK (Q11.fin N K .ret) kv))) (fun j4 gv5 => L0 (Q11.st0 av0 av1 f2 gv3 j4 gv5)) (fun ov20 => kv (.exit 0) (Q11.sx0_0 ov20)) av0 j4 gv5) := by kernel_rfl
theorem Q11.b0_eq {ρ : Type} (N : Nat) (K : AV → Heap → Option ρ) (L0 : St → Option ρ) (av0 : Nat → Int) (av1 : Nat → Int) (f2 : Nat → Int) (gv3 : Nat → Int) (j4 : Int) (gv5 : Nat → Int) :
    xcode (E11 N) ents Q11.kp 0 N (cL (cK (cB (cA (cB (cB Q11.bd)))))) 0 (Q11.st0 av0 av1 f2 gv3 j4 gv5) (roundK Q11.kp 0 0 L0 (Q11.k0 N K)) = (Q11.b0 N (fun d0 => K (.agg [⟨.u8, 64, d0⟩]) []) (fun k6 gv7 => xloop (xcode (E11 N) ents Q11.kp 0 N (cL (cK (cB (cK (cA (cB (cL (cK (cB (cA (cB (cB Q11.bd)))))))))))) 2) Q11.kp 0 2 N (Q11.st1 av0 av1 f2 gv3 j4 k6 gv7) (Q11.k1g N L0 (Q11.k0 N K))) (fun j4 gv5 => L0 (Q11.st0 av0 av1 f2 gv3 j4 gv5)) (fun ov20 => (Q11.k0 N K) (.exit 0) (Q11.sx0_0 ov20)) av0 j4 gv5) := by
  have h := Q11.b0_gen N K L0 (Q11.k0 N K) av0 av1 f2 gv3 j4 gv5
  rw [Q11.k0_mix] at h
  exact h
theorem Q11.a0_0_eq {ρ : Type} (N : Nat) (K : AV → Heap → Option ρ) (ov20 : Nat → Int) :
    (Q11.k0 N K) (.exit 0) (Q11.sx0_0 ov20) = (Q11.a0_0 N (fun d0 => K (.agg [⟨.u8, 64, d0⟩]) []) ov20) := by kernel_rfl
theorem Q11.l4_eq {ρ : Type} (N : Nat) (K : AV → Heap → Option ρ) (L0 : St → Option ρ) (L1 : St → Option ρ) (L2 : St → Option ρ) (L3 : St → Option ρ) (av0 : Nat → Int) (av1 : Nat → Int) (f2 : Nat → Int) (gv3 : Nat → Int) (j4 : Int) (k6 : Int) (lv8 : Int) (mv10 : Int) (rv12 : Nat → Int) :
    ∀ (m : Nat) (i13 : Int) (gv14 : Nat → Int), xloop (xcode (E11 N) ents Q11.kp 0 N (cL (cK (cB (cB (cB (cB (cK (cA (cB (cL (cK (cB (cK (cA (cB (cL (cK (cB (cK (cA (cB (cL (cK (cB (cK (cA (cB (cL (cK (cB (cA (cB (cB Q11.bd))))))))))))))))))))))))))))))))) 8) Q11.kp 0 8 m (Q11.st4 av0 av1 f2 gv3 j4 k6 lv8 mv10 rv12 i13 gv14) (Q11.k4g N L3 (Q11.k3g N L2 (Q11.k2g N L1 (Q11.k1g N L0 (Q11.k0 N K))))) = (Q11.l4 N (fun d0 => K (.agg [⟨.u8, 64, d0⟩]) []) av0 f2 gv3 j4 k6 lv8 mv10 rv12 (fun ov16 => (Q11.k4g N L3 (Q11.k3g N L2 (Q11.k2g N L1 (Q11.k1g N L0 (Q11.k0 N K))))) (.exit 8) (Q11.sx4_0 av0 av1 f2 gv3 j4 k6 lv8 mv10 ov16)) m i13 gv14) := by
  intro m
  induction m with
  | zero => intros; rfl
  | succ m ih =>
    intro i13 gv14
    refine (Q11.b4_eq N K L0 L1 L2 L3 (fun s => xloop (xcode (E11 N) ents Q11.kp 0 N (cL (cK (cB (cB (cB (cB (cK (cA (cB (cL (cK (cB (cK (cA (cB (cL (cK (cB (cK (cA (cB (cL (cK (cB (cK (cA (cB (cL (cK (cB (cA (cB (cB Q11.bd))))))))))))))))))))))))))))))))) 8) Q11.kp 0 8 m s (Q11.k4g N L3 (Q11.k3g N L2 (Q11.k2g N L1 (Q11.k1g N L0 (Q11.k0 N K)))))) av0 av1 f2 gv3 j4 k6 lv8 mv10 rv12 i13 gv14).trans ?_
    simp only [ih]
    kernel_rfl
theorem Q11.l3_eq {ρ : Type} (N : Nat) (K : AV → Heap → Option ρ) (L0 : St → Option ρ) (L1 : St → Option ρ) (L2 : St → Option ρ) (av0 : Nat → Int) (av1 : Nat → Int) (f2 : Nat → Int) (gv3 : Nat → Int) (j4 : Int) (k6 : Int) (lv8 : Int) :
    ∀ (m : Nat) (mv10 : Int) (gv11 : Nat → Int), xloop (xcode (E11 N) ents Q11.kp 0 N (cL (cK (cB (cK (cA (cB (cL (cK (cB (cK (cA (cB (cL (cK (cB (cK (cA (cB (cL (cK (cB (cA (cB (cB Q11.bd)))))))))))))))))))))))) 6) Q11.kp 0 6 m (Q11.st3 av0 av1 f2 gv3 j4 k6 lv8 mv10 gv11) (Q11.k3g N L2 (Q11.k2g N L1 (Q11.k1g N L0 (Q11.k0 N K)))) = (Q11.l3 N (fun d0 => K (.agg [⟨.u8, 64, d0⟩]) []) av0 av1 f2 gv3 j4 k6 lv8 (fun ov17 => (Q11.k3g N L2 (Q11.k2g N L1 (Q11.k1g N L0 (Q11.k0 N K)))) (.exit 6) (Q11.sx3_0 av0 av1 f2 gv3 j4 k6 lv8 ov17)) m mv10 gv11) := by
  intro m
  induction m with
  | zero => intros; rfl
  | succ m ih =>
    intro mv10 gv11
    refine (Q11.b3_eq N K L0 L1 L2 (fun s => xloop (xcode (E11 N) ents Q11.kp 0 N (cL (cK (cB (cK (cA (cB (cL (cK (cB (cK (cA (cB (cL (cK (cB (cK (cA (cB (cL (cK (cB (cA (cB (cB Q11.bd)))))))))))))))))))))))) 6) Q11.kp 0 6 m s (Q11.k3g N L2 (Q11.k2g N L1 (Q11.k1g N L0 (Q11.k0 N K))))) av0 av1 f2 gv3 j4 k6 lv8 mv10 gv11).trans ?_
    simp only [ih, Q11.l4_eq, Q11.a4_0_eq]
    kernel_rfl
theorem Q11.l2_eq {ρ : Type} (N : Nat) (K : AV → Heap → Option ρ) (L0 : St → Option ρ) (L1 : St → Option ρ) (av0 : Nat → Int) (av1 : Nat → Int) (f2 : Nat → Int) (gv3 : Nat → Int) (j4 : Int) (k6 : Int) :
    ∀ (m : Nat) (lv8 : Int) (gv9 : Nat → Int), xloop (xcode (E11 N) ents Q11.kp 0 N (cL (cK (cB (cK (cA (cB (cL (cK (cB (cK (cA (cB (cL (cK (cB (cA (cB (cB Q11.bd)))))))))))))))))) 4) Q11.kp 0 4 m (Q11.st2 av0 av1 f2 gv3 j4 k6 lv8 gv9) (Q11.k2g N L1 (Q11.k1g N L0 (Q11.k0 N K))) = (Q11.l2 N (fun d0 => K (.agg [⟨.u8, 64, d0⟩]) []) av0 av1 f2 gv3 j4 k6 (fun ov18 => (Q11.k2g N L1 (Q11.k1g N L0 (Q11.k0 N K))) (.exit 4) (Q11.sx2_0 av0 av1 f2 gv3 j4 k6 ov18)) m lv8 gv9) := by
  intro m
  induction m with
  | zero => intros; rfl
  | succ m ih =>
    intro lv8 gv9
    refine (Q11.b2_eq N K L0 L1 (fun s => xloop (xcode (E11 N) ents Q11.kp 0 N (cL (cK (cB (cK (cA (cB (cL (cK (cB (cK (cA (cB (cL (cK (cB (cA (cB (cB Q11.bd)))))))))))))))))) 4) Q11.kp 0 4 m s (Q11.k2g N L1 (Q11.k1g N L0 (Q11.k0 N K)))) av0 av1 f2 gv3 j4 k6 lv8 gv9).trans ?_
    simp only [ih, Q11.l3_eq, Q11.a3_0_eq]
    kernel_rfl
theorem Q11.l1_eq {ρ : Type} (N : Nat) (K : AV → Heap → Option ρ) (L0 : St → Option ρ) (av0 : Nat → Int) (av1 : Nat → Int) (f2 : Nat → Int) (gv3 : Nat → Int) (j4 : Int) :
    ∀ (m : Nat) (k6 : Int) (gv7 : Nat → Int), xloop (xcode (E11 N) ents Q11.kp 0 N (cL (cK (cB (cK (cA (cB (cL (cK (cB (cA (cB (cB Q11.bd)))))))))))) 2) Q11.kp 0 2 m (Q11.st1 av0 av1 f2 gv3 j4 k6 gv7) (Q11.k1g N L0 (Q11.k0 N K)) = (Q11.l1 N (fun d0 => K (.agg [⟨.u8, 64, d0⟩]) []) av0 av1 f2 gv3 j4 (fun ov19 => (Q11.k1g N L0 (Q11.k0 N K)) (.exit 2) (Q11.sx1_0 av0 av1 f2 gv3 j4 ov19)) m k6 gv7) := by
  intro m
  induction m with
  | zero => intros; rfl
  | succ m ih =>
    intro k6 gv7
    refine (Q11.b1_eq N K L0 (fun s => xloop (xcode (E11 N) ents Q11.kp 0 N (cL (cK (cB (cK (cA (cB (cL (cK (cB (cA (cB (cB Q11.bd)))))))))))) 2) Q11.kp 0 2 m s (Q11.k1g N L0 (Q11.k0 N K))) av0 av1 f2 gv3 j4 k6 gv7).trans ?_
    simp only [ih, Q11.l2_eq, Q11.a2_0_eq]
    kernel_rfl
theorem Q11.l0_eq {ρ : Type} (N : Nat) (K : AV → Heap → Option ρ) (av0 : Nat → Int) (av1 : Nat → Int) (f2 : Nat → Int) (gv3 : Nat → Int) :
    ∀ (m : Nat) (j4 : Int) (gv5 : Nat → Int), xloop (xcode (E11 N) ents Q11.kp 0 N (cL (cK (cB (cA (cB (cB Q11.bd)))))) 0) Q11.kp 0 0 m (Q11.st0 av0 av1 f2 gv3 j4 gv5) (Q11.k0 N K) = (Q11.l0 N (fun d0 => K (.agg [⟨.u8, 64, d0⟩]) []) av0 av1 f2 gv3 (fun ov20 => (Q11.k0 N K) (.exit 0) (Q11.sx0_0 ov20)) m j4 gv5) := by
  intro m
  induction m with
  | zero => intros; rfl
  | succ m ih =>
    intro j4 gv5
    refine (Q11.b0_eq N K (fun s => xloop (xcode (E11 N) ents Q11.kp 0 N (cL (cK (cB (cA (cB (cB Q11.bd)))))) 0) Q11.kp 0 0 m s (Q11.k0 N K)) av0 av1 f2 gv3 j4 gv5).trans ?_
    simp only [ih, Q11.l1_eq, Q11.a1_0_eq]
    kernel_rfl
theorem Q11.s_eq {ρ : Type} (N : Nat) (K : AV → Heap → Option ρ) (av0 : Nat → Int) (av1 : Nat → Int) (f2 : Nat → Int) (gv3 : Nat → Int) :
    xbody (E11 N) ents Q11.kp N Try.f53 Q11.bd [.agg [⟨.i64, 2, av0⟩, ⟨.u8, 520, av1⟩], .agg [⟨.u8, 64, f2⟩], .agg [⟨.u8, 64, gv3⟩]] [] K = (Q11.s N (fun d0 => K (.agg [⟨.u8, 64, d0⟩]) []) (fun j4 gv5 => xloop (xcode (E11 N) ents Q11.kp 0 N (cL (cK (cB (cA (cB (cB Q11.bd)))))) 0) Q11.kp 0 0 N (Q11.st0 av0 av1 f2 gv3 j4 gv5) (Q11.k0 N K))) := by kernel_rfl
theorem Q11.eq {ρ : Type} (N : Nat) (K : AV → Heap → Option ρ) (av0 : Nat → Int) (av1 : Nat → Int) (f2 : Nat → Int) (gv3 : Nat → Int) :
    xbody (E11 N) ents Q11.kp N Try.f53 Q11.bd [.agg [⟨.i64, 2, av0⟩, ⟨.u8, 520, av1⟩], .agg [⟨.u8, 64, f2⟩], .agg [⟨.u8, 64, gv3⟩]] [] K = (Q11 N (fun d0 => K (.agg [⟨.u8, 64, d0⟩]) []) av0 av1 f2 gv3) := by
  refine (Q11.s_eq N K av0 av1 f2 gv3).trans ?_
  simp only [Q11.l0_eq, Q11.a0_0_eq]
  kernel_rfl
def Q11.en (N : Nat) (ρ : Type) : List AV → Heap → (AV → Heap → Option ρ) → Option ρ
  | [.agg [⟨.i64, 2, av0⟩, ⟨.u8, 520, av1⟩], .agg [⟨.u8, 64, f2⟩], .agg [⟨.u8, 64, gv3⟩]], [], K => (Q11 N (fun d0 => K (.agg [⟨.u8, 64, d0⟩]) []) av0 av1 f2 gv3)
  | _, _, _ => none
theorem Q11.en_ok (N : Nat) (hE : EnvOk (E11 N) ents) (ρ : Type) (args : List AV) (sh : Heap) (K : AV → Heap → Option ρ) (r : ρ) (h : Q11.en N ρ args sh K = some r) : ∃ v sh', K v sh' = some r ∧ FnOk (E11 N).P 53 args sh v sh' := by
  unfold Q11.en at h
  split at h
  · exact fn_ok hE (kp := Q11.kp) (N := N) Try.func53 (c := Q11.bd) (by kernel_rfl) ((Q11.eq N _ _ _ _ _).trans h)
  · cases h
def E12 (N : Nat) : Env := (E11 N).add 53 (Q11.en N)
theorem E12_ok (N : Nat) : EnvOk (E12 N) ents := Env.add_ok (E11_ok N) (Q11.en_ok N (E11_ok N))
def Q12.kp : Keeps := ⟨[(0, [0, 1, 6, 7, 8, 9, 10], [], [])], [(0, [8, 9], [], [])], []⟩
def Q12.bd : Code := bodyOf Try.f79
def Q12.fin {ρ : Type} (N : Nat) (K : AV → Heap → Option ρ) : XE → St → Option ρ := finK (E12 N) Q12.kp.fins Try.f79 [] K
def Q12.k0 {ρ : Type} (N : Nat) (K : AV → Heap → Option ρ) : XE → St → Option ρ := (blockK Q12.kp 0 0 (seqK (xcode (E12 N) ents Q12.kp 0 N (cB (cB (cB Q12.bd))) 0) (Q12.fin N K)))
theorem Q12.k0_mix {ρ : Type} (N : Nat) (K : AV → Heap → Option ρ) : mixK (Q12.fin N K .ret) (Q12.k0 N K) = (Q12.k0 N K) := by
  funext e s; cases e <;> kernel_rfl
def Q12.st0 (p0 : Int) (nv1 : Int) (f2 : Nat → Int) (v3 : Nat → Int) (i4 : Int) (gv5 : Nat → Int) : St := ⟨sl 32 [(0, .int .i64 (p0)), (1, .int .i64 (nv1)), (6, .sptr [(0, 64)]), (7, .sptr [(1, 8)]), (8, .sptr [(2, 8)]), (9, .sptr [(3, 8)]), (10, .int .i64 (i4))], [⟨true, .flat 64 (.ints .u8 f2)⟩, ⟨true, .flat 8 (.ints .u8 v3)⟩, ⟨true, .flat 8 (.ints .u8 (fun _ => 0))⟩, ⟨true, .flat 8 (.ints .u8 gv5)⟩]⟩
def Q12.sx0_0 (ov7 : Nat → Int) : St := ⟨sl 32 [(8, .sptr [(0, 8)]), (9, .sptr [(1, 8)])], [⟨true, .flat 8 (.ints .u8 (fun _ => 0))⟩, ⟨true, .flat 8 (.ints .u8 ov7)⟩]⟩
theorem Q12.b0_gen {ρ : Type} (N : Nat) (K : AV → Heap → Option ρ) (L0 : St → Option ρ) (kv : XE → St → Option ρ) (p0 : Int) (nv1 : Int) (f2 : Nat → Int) (v3 : Nat → Int) (i4 : Int) (gv5 : Nat → Int) :
    xcode (E12 N) ents Q12.kp 0 N (cL (cK (cB (cA (cB (cB Q12.bd)))))) 0 (Q12.st0 p0 nv1 f2 v3 i4 gv5) (roundK Q12.kp 0 0 L0 (mixK (Q12.fin N K .ret) kv)) = (Q12.b0 N (fun d0 => K (.agg [⟨.u8, 8, d0⟩]) []) (fun i4 gv5 => L0 (Q12.st0 p0 nv1 f2 v3 i4 gv5)) (fun ov7 => kv (.exit 0) (Q12.sx0_0 ov7)) p0 nv1 f2 v3 i4 gv5) := by kernel_rfl
theorem Q12.b0_eq {ρ : Type} (N : Nat) (K : AV → Heap → Option ρ) (L0 : St → Option ρ) (p0 : Int) (nv1 : Int) (f2 : Nat → Int) (v3 : Nat → Int) (i4 : Int) (gv5 : Nat → Int) :
    xcode (E12 N) ents Q12.kp 0 N (cL (cK (cB (cA (cB (cB Q12.bd)))))) 0 (Q12.st0 p0 nv1 f2 v3 i4 gv5) (roundK Q12.kp 0 0 L0 (Q12.k0 N K)) = (Q12.b0 N (fun d0 => K (.agg [⟨.u8, 8, d0⟩]) []) (fun i4 gv5 => L0 (Q12.st0 p0 nv1 f2 v3 i4 gv5)) (fun ov7 => (Q12.k0 N K) (.exit 0) (Q12.sx0_0 ov7)) p0 nv1 f2 v3 i4 gv5) := by
  have h := Q12.b0_gen N K L0 (Q12.k0 N K) p0 nv1 f2 v3 i4 gv5
  rw [Q12.k0_mix] at h
  exact h
theorem Q12.a0_0_eq {ρ : Type} (N : Nat) (K : AV → Heap → Option ρ) (ov7 : Nat → Int) :
    (Q12.k0 N K) (.exit 0) (Q12.sx0_0 ov7) = (Q12.a0_0 N (fun d0 => K (.agg [⟨.u8, 8, d0⟩]) []) ov7) := by kernel_rfl
theorem Q12.l0_eq {ρ : Type} (N : Nat) (K : AV → Heap → Option ρ) (p0 : Int) (nv1 : Int) (f2 : Nat → Int) (v3 : Nat → Int) :
    ∀ (m : Nat) (i4 : Int) (gv5 : Nat → Int), xloop (xcode (E12 N) ents Q12.kp 0 N (cL (cK (cB (cA (cB (cB Q12.bd)))))) 0) Q12.kp 0 0 m (Q12.st0 p0 nv1 f2 v3 i4 gv5) (Q12.k0 N K) = (Q12.l0 N (fun d0 => K (.agg [⟨.u8, 8, d0⟩]) []) p0 nv1 f2 v3 (fun ov7 => (Q12.k0 N K) (.exit 0) (Q12.sx0_0 ov7)) m i4 gv5) := by
  intro m
  induction m with
  | zero => intros; rfl
  | succ m ih =>
    intro i4 gv5
    refine (Q12.b0_eq N K (fun s => xloop (xcode (E12 N) ents Q12.kp 0 N (cL (cK (cB (cA (cB (cB Q12.bd)))))) 0) Q12.kp 0 0 m s (Q12.k0 N K)) p0 nv1 f2 v3 i4 gv5).trans ?_
    simp only [ih]
    kernel_rfl
theorem Q12.s_eq {ρ : Type} (N : Nat) (K : AV → Heap → Option ρ) (p0 : Int) (nv1 : Int) (f2 : Nat → Int) (v3 : Nat → Int) :
    xbody (E12 N) ents Q12.kp N Try.f79 Q12.bd [.int .i64 (p0), .int .i64 (nv1), .agg [⟨.u8, 64, f2⟩], .agg [⟨.u8, 8, v3⟩]] [] K = (Q12.s N (fun d0 => K (.agg [⟨.u8, 8, d0⟩]) []) (fun i4 gv5 => xloop (xcode (E12 N) ents Q12.kp 0 N (cL (cK (cB (cA (cB (cB Q12.bd)))))) 0) Q12.kp 0 0 N (Q12.st0 p0 nv1 f2 v3 i4 gv5) (Q12.k0 N K))) := by kernel_rfl
theorem Q12.eq {ρ : Type} (N : Nat) (K : AV → Heap → Option ρ) (p0 : Int) (nv1 : Int) (f2 : Nat → Int) (v3 : Nat → Int) :
    xbody (E12 N) ents Q12.kp N Try.f79 Q12.bd [.int .i64 (p0), .int .i64 (nv1), .agg [⟨.u8, 64, f2⟩], .agg [⟨.u8, 8, v3⟩]] [] K = (Q12 N (fun d0 => K (.agg [⟨.u8, 8, d0⟩]) []) p0 nv1 f2 v3) := by
  refine (Q12.s_eq N K p0 nv1 f2 v3).trans ?_
  simp only [Q12.l0_eq, Q12.a0_0_eq]
  kernel_rfl
def Q12.en (N : Nat) (ρ : Type) : List AV → Heap → (AV → Heap → Option ρ) → Option ρ
  | [.int .i64 (p0), .int .i64 (nv1), .agg [⟨.u8, 64, f2⟩], .agg [⟨.u8, 8, v3⟩]], [], K => (Q12 N (fun d0 => K (.agg [⟨.u8, 8, d0⟩]) []) p0 nv1 f2 v3)
  | _, _, _ => none
theorem Q12.en_ok (N : Nat) (hE : EnvOk (E12 N) ents) (ρ : Type) (args : List AV) (sh : Heap) (K : AV → Heap → Option ρ) (r : ρ) (h : Q12.en N ρ args sh K = some r) : ∃ v sh', K v sh' = some r ∧ FnOk (E12 N).P 79 args sh v sh' := by
  unfold Q12.en at h
  split at h
  · exact fn_ok hE (kp := Q12.kp) (N := N) Try.func79 (c := Q12.bd) (by kernel_rfl) ((Q12.eq N _ _ _ _ _).trans h)
  · cases h
def E13 (N : Nat) : Env := (E12 N).add 79 (Q12.en N)
theorem E13_ok (N : Nat) : EnvOk (E13 N) ents := Env.add_ok (E12_ok N) (Q12.en_ok N (E12_ok N))
def Q13.kp : Keeps := ⟨[(0, [3, 4, 5, 6, 7, 8], [], [])], [(0, [6, 7], [], [])], []⟩
def Q13.bd : Code := bodyOf Try.f54
def Q13.fin {ρ : Type} (N : Nat) (K : AV → Heap → Option ρ) : XE → St → Option ρ := finK (E13 N) Q13.kp.fins Try.f54 [] K
def Q13.k0 {ρ : Type} (N : Nat) (K : AV → Heap → Option ρ) : XE → St → Option ρ := (blockK Q13.kp 0 0 (seqK (xcode (E13 N) ents Q13.kp 0 N (cB (cB (cB Q13.bd))) 0) (Q13.fin N K)))
theorem Q13.k0_mix {ρ : Type} (N : Nat) (K : AV → Heap → Option ρ) : mixK (Q13.fin N K .ret) (Q13.k0 N K) = (Q13.k0 N K) := by
  funext e s; cases e <;> kernel_rfl
def Q13.st0 (av0 : Nat → Int) (av1 : Nat → Int) (v2 : Nat → Int) (w3 : Nat → Int) (i4 : Int) (gv5 : Nat → Int) : St := ⟨sl 39 [(3, .sptr [(0, 2), (1, 520)]), (4, .sptr [(2, 8)]), (5, .sptr [(3, 8)]), (6, .sptr [(4, 8)]), (7, .sptr [(5, 8)]), (8, .int .i64 (i4))], [⟨true, .flat 2 (.ints .i64 av0)⟩, ⟨true, .flat 520 (.ints .u8 av1)⟩, ⟨true, .flat 8 (.ints .u8 v2)⟩, ⟨true, .flat 8 (.ints .u8 w3)⟩, ⟨true, .flat 8 (.ints .u8 (fun _ => 0))⟩, ⟨true, .flat 8 (.ints .u8 gv5)⟩]⟩
def Q13.sx0_0 (ov8 : Nat → Int) : St := ⟨sl 39 [(6, .sptr [(0, 8)]), (7, .sptr [(1, 8)])], [⟨true, .flat 8 (.ints .u8 (fun _ => 0))⟩, ⟨true, .flat 8 (.ints .u8 ov8)⟩]⟩
theorem Q13.b0_gen {ρ : Type} (N : Nat) (K : AV → Heap → Option ρ) (L0 : St → Option ρ) (kv : XE → St → Option ρ) (av0 : Nat → Int) (av1 : Nat → Int) (v2 : Nat → Int) (w3 : Nat → Int) (i4 : Int) (gv5 : Nat → Int) :
    xcode (E13 N) ents Q13.kp 0 N (cL (cK (cB (cA (cB (cB Q13.bd)))))) 0 (Q13.st0 av0 av1 v2 w3 i4 gv5) (roundK Q13.kp 0 0 L0 (mixK (Q13.fin N K .ret) kv)) = (Q13.b0 N (fun d0 => K (.agg [⟨.u8, 8, d0⟩]) []) (fun i4 gv5 => L0 (Q13.st0 av0 av1 v2 w3 i4 gv5)) (fun ov8 => kv (.exit 0) (Q13.sx0_0 ov8)) av0 av1 v2 w3 i4 gv5) := by kernel_rfl
theorem Q13.b0_eq {ρ : Type} (N : Nat) (K : AV → Heap → Option ρ) (L0 : St → Option ρ) (av0 : Nat → Int) (av1 : Nat → Int) (v2 : Nat → Int) (w3 : Nat → Int) (i4 : Int) (gv5 : Nat → Int) :
    xcode (E13 N) ents Q13.kp 0 N (cL (cK (cB (cA (cB (cB Q13.bd)))))) 0 (Q13.st0 av0 av1 v2 w3 i4 gv5) (roundK Q13.kp 0 0 L0 (Q13.k0 N K)) = (Q13.b0 N (fun d0 => K (.agg [⟨.u8, 8, d0⟩]) []) (fun i4 gv5 => L0 (Q13.st0 av0 av1 v2 w3 i4 gv5)) (fun ov8 => (Q13.k0 N K) (.exit 0) (Q13.sx0_0 ov8)) av0 av1 v2 w3 i4 gv5) := by
  have h := Q13.b0_gen N K L0 (Q13.k0 N K) av0 av1 v2 w3 i4 gv5
  rw [Q13.k0_mix] at h
  exact h
theorem Q13.a0_0_eq {ρ : Type} (N : Nat) (K : AV → Heap → Option ρ) (ov8 : Nat → Int) :
    (Q13.k0 N K) (.exit 0) (Q13.sx0_0 ov8) = (Q13.a0_0 N (fun d0 => K (.agg [⟨.u8, 8, d0⟩]) []) ov8) := by kernel_rfl
theorem Q13.l0_eq {ρ : Type} (N : Nat) (K : AV → Heap → Option ρ) (av0 : Nat → Int) (av1 : Nat → Int) (v2 : Nat → Int) (w3 : Nat → Int) :
    ∀ (m : Nat) (i4 : Int) (gv5 : Nat → Int), xloop (xcode (E13 N) ents Q13.kp 0 N (cL (cK (cB (cA (cB (cB Q13.bd)))))) 0) Q13.kp 0 0 m (Q13.st0 av0 av1 v2 w3 i4 gv5) (Q13.k0 N K) = (Q13.l0 N (fun d0 => K (.agg [⟨.u8, 8, d0⟩]) []) av0 av1 v2 w3 (fun ov8 => (Q13.k0 N K) (.exit 0) (Q13.sx0_0 ov8)) m i4 gv5) := by
  intro m
  induction m with
  | zero => intros; rfl
  | succ m ih =>
    intro i4 gv5
    refine (Q13.b0_eq N K (fun s => xloop (xcode (E13 N) ents Q13.kp 0 N (cL (cK (cB (cA (cB (cB Q13.bd)))))) 0) Q13.kp 0 0 m s (Q13.k0 N K)) av0 av1 v2 w3 i4 gv5).trans ?_
    simp only [ih]
    kernel_rfl
theorem Q13.s_eq {ρ : Type} (N : Nat) (K : AV → Heap → Option ρ) (av0 : Nat → Int) (av1 : Nat → Int) (v2 : Nat → Int) (w3 : Nat → Int) :
    xbody (E13 N) ents Q13.kp N Try.f54 Q13.bd [.agg [⟨.i64, 2, av0⟩, ⟨.u8, 520, av1⟩], .agg [⟨.u8, 8, v2⟩], .agg [⟨.u8, 8, w3⟩]] [] K = (Q13.s N (fun d0 => K (.agg [⟨.u8, 8, d0⟩]) []) (fun i4 gv5 => xloop (xcode (E13 N) ents Q13.kp 0 N (cL (cK (cB (cA (cB (cB Q13.bd)))))) 0) Q13.kp 0 0 N (Q13.st0 av0 av1 v2 w3 i4 gv5) (Q13.k0 N K))) := by kernel_rfl
theorem Q13.eq {ρ : Type} (N : Nat) (K : AV → Heap → Option ρ) (av0 : Nat → Int) (av1 : Nat → Int) (v2 : Nat → Int) (w3 : Nat → Int) :
    xbody (E13 N) ents Q13.kp N Try.f54 Q13.bd [.agg [⟨.i64, 2, av0⟩, ⟨.u8, 520, av1⟩], .agg [⟨.u8, 8, v2⟩], .agg [⟨.u8, 8, w3⟩]] [] K = (Q13 N (fun d0 => K (.agg [⟨.u8, 8, d0⟩]) []) av0 av1 v2 w3) := by
  refine (Q13.s_eq N K av0 av1 v2 w3).trans ?_
  simp only [Q13.l0_eq, Q13.a0_0_eq]
  kernel_rfl
def Q13.en (N : Nat) (ρ : Type) : List AV → Heap → (AV → Heap → Option ρ) → Option ρ
  | [.agg [⟨.i64, 2, av0⟩, ⟨.u8, 520, av1⟩], .agg [⟨.u8, 8, v2⟩], .agg [⟨.u8, 8, w3⟩]], [], K => (Q13 N (fun d0 => K (.agg [⟨.u8, 8, d0⟩]) []) av0 av1 v2 w3)
  | _, _, _ => none
theorem Q13.en_ok (N : Nat) (hE : EnvOk (E13 N) ents) (ρ : Type) (args : List AV) (sh : Heap) (K : AV → Heap → Option ρ) (r : ρ) (h : Q13.en N ρ args sh K = some r) : ∃ v sh', K v sh' = some r ∧ FnOk (E13 N).P 54 args sh v sh' := by
  unfold Q13.en at h
  split at h
  · exact fn_ok hE (kp := Q13.kp) (N := N) Try.func54 (c := Q13.bd) (by kernel_rfl) ((Q13.eq N _ _ _ _ _).trans h)
  · cases h
def E14 (N : Nat) : Env := (E13 N).add 54 (Q13.en N)
theorem E14_ok (N : Nat) : EnvOk (E14 N) ents := Env.add_ok (E13_ok N) (Q13.en_ok N (E13_ok N))
def Q14.kp : Keeps := ⟨[(0, [0, 2, 3, 4, 5], [], []), (2, [0, 2, 3, 4, 5, 6], [], []), (4, [2, 3, 14, 15, 16, 17, 18, 19], [], [])], [(0, [0, 2, 3, 4], [], []), (2, [0, 2, 3, 4, 5], [], []), (4, [2, 3], [], [])], []⟩
def Q14.bd : Code := bodyOf Try.f27
def Q14.fin {ρ : Type} (N : Nat) (K : AV → Heap → Option ρ) : XE → St → Option ρ := finK (E14 N) Q14.kp.fins Try.f27 [] K
def Q14.k0 {ρ : Type} (N : Nat) (K : AV → Heap → Option ρ) : XE → St → Option ρ := (blockK Q14.kp 0 0 (seqK (xcode (E14 N) ents Q14.kp 0 N (cB (cB (cB (cB (cB (cB Q14.bd)))))) 0) (Q14.fin N K)))
theorem Q14.k0_mix {ρ : Type} (N : Nat) (K : AV → Heap → Option ρ) : mixK (Q14.fin N K .ret) (Q14.k0 N K) = (Q14.k0 N K) := by
  funext e s; cases e <;> kernel_rfl
def Q14.st0 (p0 : Int) (i1 : Int) (gv2 : Nat → Int) : St := ⟨sl 179 [(0, .int .i64 (p0)), (2, .sptr [(0, 2), (1, 1104)]), (3, .sptr [(2, 2), (3, 1104)]), (4, .int .u8 ((IntKind.u8.wrap (IntKind.i64.wrap (p0 - 1))))), (5, .int .i64 (i1))], [⟨true, .flat 2 (.ints .i64 (fun _ => 0))⟩, ⟨true, .flat 1104 (.ints .u8 (fun _ => 0))⟩, ⟨true, .flat 2 (.ints .i64 (upd (upd (fun _ => 0) 0 p0) 1 8))⟩, ⟨true, .flat 1104 (.ints .u8 gv2)⟩]⟩
def Q14.sx0_0 (p0 : Int) (ov6 : Nat → Int) : St := ⟨sl 179 [(0, .int .i64 (p0)), (2, .sptr [(0, 2), (1, 1104)]), (3, .sptr [(2, 2), (3, 1104)]), (4, .int .u8 ((IntKind.u8.wrap (IntKind.i64.wrap (p0 - 1)))))], [⟨true, .flat 2 (.ints .i64 (fun _ => 0))⟩, ⟨true, .flat 1104 (.ints .u8 (fun _ => 0))⟩, ⟨true, .flat 2 (.ints .i64 (upd (upd (fun _ => 0) 0 p0) 1 8))⟩, ⟨true, .flat 1104 (.ints .u8 ov6)⟩]⟩
def Q14.k1g {ρ : Type} (N : Nat) (L0 : St → Option ρ) (kv : XE → St → Option ρ) : XE → St → Option ρ := (blockK Q14.kp 0 2 (blockK Q14.kp 0 1 (seqK (xcode (E14 N) ents Q14.kp 0 N (cB (cB (cL (cK (cB (cA (cB (cB (cB (cB (cB Q14.bd))))))))))) 0) (roundK Q14.kp 0 0 L0 kv))))
theorem Q14.k1_mix {ρ : Type} (N : Nat) (K : AV → Heap → Option ρ) (L0 : St → Option ρ) : mixK (Q14.fin N K .ret) (Q14.k1g N L0 (Q14.k0 N K)) = (Q14.k1g N L0 (Q14.k0 N K)) := by
  funext e s; cases e <;> kernel_rfl
def Q14.st1 (p0 : Int) (i1 : Int) (j3 : Int) (gv4 : Nat → Int) : St := ⟨sl 179 [(0, .int .i64 (p0)), (2, .sptr [(0, 2), (1, 1104)]), (3, .sptr [(2, 2), (3, 1104)]), (4, .int .u8 ((IntKind.u8.wrap (IntKind.i64.wrap (p0 - 1))))), (5, .int .i64 (i1)), (6, .int .i64 (j3))], [⟨true, .flat 2 (.ints .i64 (fun _ => 0))⟩, ⟨true, .flat 1104 (.ints .u8 (fun _ => 0))⟩, ⟨true, .flat 2 (.ints .i64 (upd (upd (fun _ => 0) 0 p0) 1 8))⟩, ⟨true, .flat 1104 (.ints .u8 gv4)⟩]⟩
def Q14.sx1_0 (p0 : Int) (i1 : Int) (ov5 : Nat → Int) : St := ⟨sl 179 [(0, .int .i64 (p0)), (2, .sptr [(0, 2), (1, 1104)]), (3, .sptr [(2, 2), (3, 1104)]), (4, .int .u8 ((IntKind.u8.wrap (IntKind.i64.wrap (p0 - 1))))), (5, .int .i64 (i1))], [⟨true, .flat 2 (.ints .i64 (fun _ => 0))⟩, ⟨true, .flat 1104 (.ints .u8 (fun _ => 0))⟩, ⟨true, .flat 2 (.ints .i64 (upd (upd (fun _ => 0) 0 p0) 1 8))⟩, ⟨true, .flat 1104 (.ints .u8 ov5)⟩]⟩
def Q14.k2 {ρ : Type} (N : Nat) (K : AV → Heap → Option ρ) : XE → St → Option ρ := (blockK Q14.kp 0 4 (seqK (xcode (E14 N) ents Q14.kp 0 N (cB (cB (cB (cB (cB (cB (cB (cB (cB (cB (cB (cB Q14.bd)))))))))))) 0) (Q14.fin N K)))
theorem Q14.k2_mix {ρ : Type} (N : Nat) (K : AV → Heap → Option ρ) : mixK (Q14.fin N K .ret) (Q14.k2 N K) = (Q14.k2 N K) := by
  funext e s; cases e <;> kernel_rfl
def Q14.st2 (p0 : Int) (ov6 : Nat → Int) (i7 : Int) (gv8 : Nat → Int) : St := ⟨sl 179 [(2, .sptr [(0, 2), (1, 1104)]), (3, .sptr [(2, 2), (3, 1104)]), (14, .sptr [(4, 2), (5, 520)]), (15, .sptr [(6, 64)]), (16, .sptr [(7, 64)]), (17, .sptr [(8, 64)]), (18, .slice true 9 0 3 (.exact 3) 8), (19, .int .i64 (i7))], [⟨true, .flat 2 (.ints .i64 (fun _ => 0))⟩, ⟨true, .flat 1104 (.ints .u8 (fun _ => 0))⟩, ⟨true, .flat 2 (.ints .i64 (upd (upd (fun _ => 0) 0 p0) 1 8))⟩, ⟨true, .flat 1104 (.ints .u8 gv8)⟩, ⟨true, .flat 2 (.ints .i64 (upd (upd (fun _ => 0) 0 p0) 1 8))⟩, ⟨true, .flat 520 (.ints .u8 (updN (updN (fun _ => 0) 0 8 (fun z => (ov6 (0 + z)))) 8 512 (fun z => (ov6 (8 + z)))))⟩, ⟨true, .flat 64 (.ints .u8 (updN (updN (fun _ => 0) 0 8 (fun _ => 0)) 8 8 (upd (upd (fun _ => 0) 0 0) 1 1)))⟩, ⟨true, .flat 64 (.ints .u8 (updN (updN (updN (fun _ => 0) 0 8 (fun _ => 0)) 8 8 (upd (upd (upd (fun _ => 0) 0 0) 1 0) 2 1)) 16 8 (upd (fun _ => 0) 0 1)))⟩, ⟨true, .flat 64 (.ints .u8 (updN (updN (updN (updN (updN (fun _ => 0) 0 8 (fun _ => 0)) 8 8 (upd (upd (upd (upd (upd (fun _ => 0) 0 0) 1 0) 2 0) 3 0) 4 1)) 16 8 (fun _ => 0)) 24 8 (fun _ => 0)) 32 8 (upd (fun _ => 0) 0 1)))⟩, ⟨true, .flat 24 (.ints .u8 (updN (updN (updN (fun _ => 0) 0 8 (upd (upd (fun _ => 0) 0 0) 1 1)) 8 8 (upd (upd (upd (upd (fun _ => 0) 0 0) 1 0) 2 0) 3 (IntKind.u8.wrap (IntKind.i64.wrap (p0 - 1))))) 16 8 (upd (upd (upd (upd (upd (upd (fun _ => 0) 0 0) 1 0) 2 0) 3 0) 4 0) 5 (IntKind.u8.wrap (IntKind.i64.wrap (p0 - 1))))))⟩]⟩
def Q14.sx2_0 (p0 : Int) (ov24 : Nat → Int) : St := ⟨sl 179 [(2, .sptr [(0, 2), (1, 1104)]), (3, .sptr [(2, 2), (3, 1104)])], [⟨true, .flat 2 (.ints .i64 (fun _ => 0))⟩, ⟨true, .flat 1104 (.ints .u8 (fun _ => 0))⟩, ⟨true, .flat 2 (.ints .i64 (upd (upd (fun _ => 0) 0 p0) 1 8))⟩, ⟨true, .flat 1104 (.ints .u8 ov24)⟩]⟩
theorem Q14.b1_gen {ρ : Type} (N : Nat) (K : AV → Heap → Option ρ) (L1 : St → Option ρ) (kv : XE → St → Option ρ) (p0 : Int) (i1 : Int) (j3 : Int) (gv4 : Nat → Int) :
    xcode (E14 N) ents Q14.kp 0 N (cL (cK (cB (cK (cA (cB (cL (cK (cB (cA (cB (cB (cB (cB (cB Q14.bd))))))))))))))) 2 (Q14.st1 p0 i1 j3 gv4) (roundK Q14.kp 0 2 L1 (mixK (Q14.fin N K .ret) kv)) = (Q14.b1 N (fun d0 d1 => K (.agg [⟨.i64, 2, d0⟩, ⟨.u8, 1104, d1⟩]) []) (fun j3 gv4 => L1 (Q14.st1 p0 i1 j3 gv4)) (fun ov5 => kv (.exit 2) (Q14.sx1_0 p0 i1 ov5)) p0 i1 j3 gv4) := by kernel_rfl
theorem Q14.b1_eq {ρ : Type} (N : Nat) (K : AV → Heap → Option ρ) (L0 : St → Option ρ) (L1 : St → Option ρ) (p0 : Int) (i1 : Int) (j3 : Int) (gv4 : Nat → Int) :
    xcode (E14 N) ents Q14.kp 0 N (cL (cK (cB (cK (cA (cB (cL (cK (cB (cA (cB (cB (cB (cB (cB Q14.bd))))))))))))))) 2 (Q14.st1 p0 i1 j3 gv4) (roundK Q14.kp 0 2 L1 (Q14.k1g N L0 (Q14.k0 N K))) = (Q14.b1 N (fun d0 d1 => K (.agg [⟨.i64, 2, d0⟩, ⟨.u8, 1104, d1⟩]) []) (fun j3 gv4 => L1 (Q14.st1 p0 i1 j3 gv4)) (fun ov5 => (Q14.k1g N L0 (Q14.k0 N K)) (.exit 2) (Q14.sx1_0 p0 i1 ov5)) p0 i1 j3 gv4) := by
  have h := Q14.b1_gen N K L1 (Q14.k1g N L0 (Q14.k0 N K)) p0 i1 j3 gv4
  rw [Q14.k1_mix] at h
  exact h
theorem Q14.a1_0_gen {ρ : Type} (N : Nat) (K : AV → Heap → Option ρ) (L0 : St → Option ρ) (kv : XE → St → Option ρ) (p0 : Int) (i1 : Int) (ov5 : Nat → Int) :
    (Q14.k1g N L0 (mixK (Q14.fin N K .ret) kv)) (.exit 2) (Q14.sx1_0 p0 i1 ov5) = (Q14.a1_0 N (fun d0 d1 => K (.agg [⟨.i64, 2, d0⟩, ⟨.u8, 1104, d1⟩]) []) (fun i1 gv2 => L0 (Q14.st0 p0 i1 gv2)) (fun ov6 => kv (.exit 0) (Q14.sx0_0 p0 ov6)) i1 ov5) := by kernel_rfl
theorem Q14.a1_0_eq {ρ : Type} (N : Nat) (K : AV → Heap → Option ρ) (L0 : St → Option ρ) (p0 : Int) (i1 : Int) (ov5 : Nat → Int) :
    (Q14.k1g N L0 (Q14.k0 N K)) (.exit 2) (Q14.sx1_0 p0 i1 ov5) = (Q14.a1_0 N (fun d0 d1 => K (.agg [⟨.i64, 2, d0⟩, ⟨.u8, 1104, d1⟩]) []) (fun i1 gv2 => L0 (Q14.st0 p0 i1 gv2)) (fun ov6 => (Q14.k0 N K) (.exit 0) (Q14.sx0_0 p0 ov6)) i1 ov5) := by
  have h := Q14.a1_0_gen N K L0 (Q14.k0 N K) p0 i1 ov5
  rw [Q14.k0_mix] at h
  exact h
theorem Q14.b2_gen {ρ : Type} (N : Nat) (K : AV → Heap → Option ρ) (L2 : St → Option ρ) (kv : XE → St → Option ρ) (p0 : Int) (ov6 : Nat → Int) (i7 : Int) (gv8 : Nat → Int) :
    xcode (E14 N) ents Q14.kp 0 N (cL (cK (cB (cA (cB (cB (cB (cB (cB (cB (cB (cB (cB (cB (cB Q14.bd))))))))))))))) 4 (Q14.st2 p0 ov6 i7 gv8) (roundK Q14.kp 0 4 L2 (mixK (Q14.fin N K .ret) kv)) = (Q14.b2 N (fun d0 d1 => K (.agg [⟨.i64, 2, d0⟩, ⟨.u8, 1104, d1⟩]) []) (fun i7 gv8 => L2 (Q14.st2 p0 ov6 i7 gv8)) (fun ov24 => kv (.exit 4) (Q14.sx2_0 p0 ov24)) p0 ov6 i7 gv8) := by kernel_rfl
theorem Q14.b2_eq {ρ : Type} (N : Nat) (K : AV → Heap → Option ρ) (L2 : St → Option ρ) (p0 : Int) (ov6 : Nat → Int) (i7 : Int) (gv8 : Nat → Int) :
    xcode (E14 N) ents Q14.kp 0 N (cL (cK (cB (cA (cB (cB (cB (cB (cB (cB (cB (cB (cB (cB (cB Q14.bd))))))))))))))) 4 (Q14.st2 p0 ov6 i7 gv8) (roundK Q14.kp 0 4 L2 (Q14.k2 N K)) = (Q14.b2 N (fun d0 d1 => K (.agg [⟨.i64, 2, d0⟩, ⟨.u8, 1104, d1⟩]) []) (fun i7 gv8 => L2 (Q14.st2 p0 ov6 i7 gv8)) (fun ov24 => (Q14.k2 N K) (.exit 4) (Q14.sx2_0 p0 ov24)) p0 ov6 i7 gv8) := by
  have h := Q14.b2_gen N K L2 (Q14.k2 N K) p0 ov6 i7 gv8
  rw [Q14.k2_mix] at h
  exact h
theorem Q14.a2_0_eq {ρ : Type} (N : Nat) (K : AV → Heap → Option ρ) (p0 : Int) (ov24 : Nat → Int) :
    (Q14.k2 N K) (.exit 4) (Q14.sx2_0 p0 ov24) = (Q14.a2_0 N (fun d0 d1 => K (.agg [⟨.i64, 2, d0⟩, ⟨.u8, 1104, d1⟩]) []) p0 ov24) := by kernel_rfl
theorem Q14.b0_gen {ρ : Type} (N : Nat) (K : AV → Heap → Option ρ) (L0 : St → Option ρ) (kv : XE → St → Option ρ) (p0 : Int) (i1 : Int) (gv2 : Nat → Int) :
    xcode (E14 N) ents Q14.kp 0 N (cL (cK (cB (cA (cB (cB (cB (cB (cB Q14.bd))))))))) 0 (Q14.st0 p0 i1 gv2) (roundK Q14.kp 0 0 L0 (mixK (Q14.fin N K .ret) kv)) = (Q14.b0 N (fun d0 d1 => K (.agg [⟨.i64, 2, d0⟩, ⟨.u8, 1104, d1⟩]) []) (fun j3 gv4 => xloop (xcode (E14 N) ents Q14.kp 0 N (cL (cK (cB (cK (cA (cB (cL (cK (cB (cA (cB (cB (cB (cB (cB Q14.bd))))))))))))))) 2) Q14.kp 0 2 N (Q14.st1 p0 i1 j3 gv4) (Q14.k1g N L0 (mixK (Q14.fin N K .ret) kv))) (fun i1 gv2 => L0 (Q14.st0 p0 i1 gv2)) (fun ov6 => kv (.exit 0) (Q14.sx0_0 p0 ov6)) i1 gv2) := by kernel_rfl
theorem Q14.b0_eq {ρ : Type} (N : Nat) (K : AV → Heap → Option ρ) (L0 : St → Option ρ) (p0 : Int) (i1 : Int) (gv2 : Nat → Int) :
    xcode (E14 N) ents Q14.kp 0 N (cL (cK (cB (cA (cB (cB (cB (cB (cB Q14.bd))))))))) 0 (Q14.st0 p0 i1 gv2) (roundK Q14.kp 0 0 L0 (Q14.k0 N K)) = (Q14.b0 N (fun d0 d1 => K (.agg [⟨.i64, 2, d0⟩, ⟨.u8, 1104, d1⟩]) []) (fun j3 gv4 => xloop (xcode (E14 N) ents Q14.kp 0 N (cL (cK (cB (cK (cA (cB (cL (cK (cB (cA (cB (cB (cB (cB (cB Q14.bd))))))))))))))) 2) Q14.kp 0 2 N (Q14.st1 p0 i1 j3 gv4) (Q14.k1g N L0 (Q14.k0 N K))) (fun i1 gv2 => L0 (Q14.st0 p0 i1 gv2)) (fun ov6 => (Q14.k0 N K) (.exit 0) (Q14.sx0_0 p0 ov6)) i1 gv2) := by
  have h := Q14.b0_gen N K L0 (Q14.k0 N K) p0 i1 gv2
  rw [Q14.k0_mix] at h
  exact h
theorem Q14.a0_0_eq {ρ : Type} (N : Nat) (K : AV → Heap → Option ρ) (p0 : Int) (ov6 : Nat → Int) :
    (Q14.k0 N K) (.exit 0) (Q14.sx0_0 p0 ov6) = (Q14.a0_0 N (fun d0 d1 => K (.agg [⟨.i64, 2, d0⟩, ⟨.u8, 1104, d1⟩]) []) (fun i7 gv8 => xloop (xcode (E14 N) ents Q14.kp 0 N (cL (cK (cB (cA (cB (cB (cB (cB (cB (cB (cB (cB (cB (cB (cB Q14.bd))))))))))))))) 4) Q14.kp 0 4 N (Q14.st2 p0 ov6 i7 gv8) (Q14.k2 N K)) ov6) := by kernel_rfl
theorem Q14.l1_eq {ρ : Type} (N : Nat) (K : AV → Heap → Option ρ) (L0 : St → Option ρ) (p0 : Int) (i1 : Int) :
    ∀ (m : Nat) (j3 : Int) (gv4 : Nat → Int), xloop (xcode (E14 N) ents Q14.kp 0 N (cL (cK (cB (cK (cA (cB (cL (cK (cB (cA (cB (cB (cB (cB (cB Q14.bd))))))))))))))) 2) Q14.kp 0 2 m (Q14.st1 p0 i1 j3 gv4) (Q14.k1g N L0 (Q14.k0 N K)) = (Q14.l1 N (fun d0 d1 => K (.agg [⟨.i64, 2, d0⟩, ⟨.u8, 1104, d1⟩]) []) p0 i1 (fun ov5 => (Q14.k1g N L0 (Q14.k0 N K)) (.exit 2) (Q14.sx1_0 p0 i1 ov5)) m j3 gv4) := by
  intro m
  induction m with
  | zero => intros; rfl
  | succ m ih =>
    intro j3 gv4
    refine (Q14.b1_eq N K L0 (fun s => xloop (xcode (E14 N) ents Q14.kp 0 N (cL (cK (cB (cK (cA (cB (cL (cK (cB (cA (cB (cB (cB (cB (cB Q14.bd))))))))))))))) 2) Q14.kp 0 2 m s (Q14.k1g N L0 (Q14.k0 N K))) p0 i1 j3 gv4).trans ?_
    simp only [ih]
    kernel_rfl
theorem Q14.l2_eq {ρ : Type} (N : Nat) (K : AV → Heap → Option ρ) (p0 : Int) (ov6 : Nat → Int) :
    ∀ (m : Nat) (i7 : Int) (gv8 : Nat → Int), xloop (xcode (E14 N) ents Q14.kp 0 N (cL (cK (cB (cA (cB (cB (cB (cB (cB (cB (cB (cB (cB (cB (cB Q14.bd))))))))))))))) 4) Q14.kp 0 4 m (Q14.st2 p0 ov6 i7 gv8) (Q14.k2 N K) = (Q14.l2 N (fun d0 d1 => K (.agg [⟨.i64, 2, d0⟩, ⟨.u8, 1104, d1⟩]) []) p0 ov6 (fun ov24 => (Q14.k2 N K) (.exit 4) (Q14.sx2_0 p0 ov24)) m i7 gv8) := by
  intro m
  induction m with
  | zero => intros; rfl
  | succ m ih =>
    intro i7 gv8
    refine (Q14.b2_eq N K (fun s => xloop (xcode (E14 N) ents Q14.kp 0 N (cL (cK (cB (cA (cB (cB (cB (cB (cB (cB (cB (cB (cB (cB (cB Q14.bd))))))))))))))) 4) Q14.kp 0 4 m s (Q14.k2 N K)) p0 ov6 i7 gv8).trans ?_
    simp only [ih]
    kernel_rfl
theorem Q14.l0_eq {ρ : Type} (N : Nat) (K : AV → Heap → Option ρ) (p0 : Int) :
    ∀ (m : Nat) (i1 : Int) (gv2 : Nat → Int), xloop (xcode (E14 N) ents Q14.kp 0 N (cL (cK (cB (cA (cB (cB (cB (cB (cB Q14.bd))))))))) 0) Q14.kp 0 0 m (Q14.st0 p0 i1 gv2) (Q14.k0 N K) = (Q14.l0 N (fun d0 d1 => K (.agg [⟨.i64, 2, d0⟩, ⟨.u8, 1104, d1⟩]) []) p0 (fun ov6 => (Q14.k0 N K) (.exit 0) (Q14.sx0_0 p0 ov6)) m i1 gv2) := by
  intro m
  induction m with
  | zero => intros; rfl
  | succ m ih =>
    intro i1 gv2
    refine (Q14.b0_eq N K (fun s => xloop (xcode (E14 N) ents Q14.kp 0 N (cL (cK (cB (cA (cB (cB (cB (cB (cB Q14.bd))))))))) 0) Q14.kp 0 0 m s (Q14.k0 N K)) p0 i1 gv2).trans ?_
    simp only [ih, Q14.l1_eq, Q14.a1_0_eq]
    kernel_rfl
theorem Q14.s_eq {ρ : Type} (N : Nat) (K : AV → Heap → Option ρ) (p0 : Int) :
    xbody (E14 N) ents Q14.kp N Try.f27 Q14.bd [.int .i64 (p0)] [] K = (Q14.s N (fun d0 d1 => K (.agg [⟨.i64, 2, d0⟩, ⟨.u8, 1104, d1⟩]) []) (fun i1 gv2 => xloop (xcode (E14 N) ents Q14.kp 0 N (cL (cK (cB (cA (cB (cB (cB (cB (cB Q14.bd))))))))) 0) Q14.kp 0 0 N (Q14.st0 p0 i1 gv2) (Q14.k0 N K))) := by kernel_rfl
theorem Q14.eq {ρ : Type} (N : Nat) (K : AV → Heap → Option ρ) (p0 : Int) :
    xbody (E14 N) ents Q14.kp N Try.f27 Q14.bd [.int .i64 (p0)] [] K = (Q14 N (fun d0 d1 => K (.agg [⟨.i64, 2, d0⟩, ⟨.u8, 1104, d1⟩]) []) p0) := by
  refine (Q14.s_eq N K p0).trans ?_
  simp only [Q14.l0_eq, Q14.a0_0_eq, Q14.l2_eq, Q14.a2_0_eq]
  kernel_rfl
def Q14.en (N : Nat) (ρ : Type) : List AV → Heap → (AV → Heap → Option ρ) → Option ρ
  | [.int .i64 (p0)], [], K => (Q14 N (fun d0 d1 => K (.agg [⟨.i64, 2, d0⟩, ⟨.u8, 1104, d1⟩]) []) p0)
  | _, _, _ => none
theorem Q14.en_ok (N : Nat) (hE : EnvOk (E14 N) ents) (ρ : Type) (args : List AV) (sh : Heap) (K : AV → Heap → Option ρ) (r : ρ) (h : Q14.en N ρ args sh K = some r) : ∃ v sh', K v sh' = some r ∧ FnOk (E14 N).P 27 args sh v sh' := by
  unfold Q14.en at h
  split at h
  · exact fn_ok hE (kp := Q14.kp) (N := N) Try.func27 (c := Q14.bd) (by kernel_rfl) ((Q14.eq N _ _).trans h)
  · cases h
def E15 (N : Nat) : Env := (E14 N).add 27 (Q14.en N)
theorem E15_ok (N : Nat) : EnvOk (E15 N) ents := Env.add_ok (E14_ok N) (Q14.en_ok N (E14_ok N))
def Q15.kp : Keeps := ⟨[], [], []⟩
def Q15.bd : Code := bodyOf Try.f9
def Q15.fin {ρ : Type} (N : Nat) (K : AV → Heap → Option ρ) : XE → St → Option ρ := finK (E15 N) Q15.kp.fins Try.f9 [] K
theorem Q15.eq {ρ : Type} (N : Nat) (K : AV → Heap → Option ρ) (p0 : Int) :
    xbody (E15 N) ents Q15.kp N Try.f9 Q15.bd [.int .i64 (p0)] [] K = (Q15 N (fun d0 d1 d2 => K (.tup [.agg [⟨.i64, 2, d0⟩, ⟨.u8, 1104, d1⟩], .int .i64 (d2)]) []) p0) := by kernel_rfl
def Q15.en (N : Nat) (ρ : Type) : List AV → Heap → (AV → Heap → Option ρ) → Option ρ
  | [.int .i64 (p0)], [], K => (Q15 N (fun d0 d1 d2 => K (.tup [.agg [⟨.i64, 2, d0⟩, ⟨.u8, 1104, d1⟩], .int .i64 (d2)]) []) p0)
  | _, _, _ => none
theorem Q15.en_ok (N : Nat) (hE : EnvOk (E15 N) ents) (ρ : Type) (args : List AV) (sh : Heap) (K : AV → Heap → Option ρ) (r : ρ) (h : Q15.en N ρ args sh K = some r) : ∃ v sh', K v sh' = some r ∧ FnOk (E15 N).P 9 args sh v sh' := by
  unfold Q15.en at h
  split at h
  · exact fn_ok hE (kp := Q15.kp) (N := N) Try.func9 (c := Q15.bd) (by kernel_rfl) ((Q15.eq N _ _).trans h)
  · cases h
def E16 (N : Nat) : Env := (E15 N).add 9 (Q15.en N)
theorem E16_ok (N : Nat) : EnvOk (E16 N) ents := Env.add_ok (E15_ok N) (Q15.en_ok N (E15_ok N))
end
end Go.Proofs.Ytlehklooibbmcaa.H
