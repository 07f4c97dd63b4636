import Derived.Test.YtmjpfchbkolcbaaHL0
namespace Go.Proofs.Ytmjpfchbkolcbaa.H
noncomputable section
set_option linter.unusedVariables false
set_option linter.unusedSimpArgs false
open Go Go.RowKit Go.Proofs.Ytmjpfchbkolcbaa.Hy
set_option maxRecDepth 100000
def spec_l01Solve.kp : Keeps := ⟨[(0, [0, 1, 5, 9, 10, 11, 12], [], []), (2, [0, 1, 5, 9, 10, 11, 12, 13, 14, 15], [], [])], [(0, [9, 10, 11], [], []), (2, [0, 1, 5, 9, 10, 11, 12, 13, 14], [], [])], []⟩
def spec_l01Solve.bd : Code := bodyOf Try.f95
def spec_l01Solve.fin {ρ : Type} (N : Nat) (K : AV → Heap → Option ρ) : XE → St → Option ρ := finK (E22 N) spec_l01Solve.kp.fins Try.f95 [] K
def spec_l01Solve.k0 {ρ : Type} (N : Nat) (K : AV → Heap → Option ρ) : XE → St → Option ρ := (blockK spec_l01Solve.kp 0 0 (seqK (xcode (E22 N) ents spec_l01Solve.kp 0 N (cB (cB (cB spec_l01Solve.bd))) 0) (spec_l01Solve.fin N K)))
theorem spec_l01Solve.k0_mix {ρ : Type} (N : Nat) (K : AV → Heap → Option ρ) : mixK (spec_l01Solve.fin N K .ret) (spec_l01Solve.k0 N K) = (spec_l01Solve.k0 N K) := by
  funext e s; cases e <;> kernel_rfl
def spec_l01Solve.st0 (p0 : Int) (nv1 : Int) (f2 : Nat → Int) (images3 : Nat) (sources4 : Nat) (kernel5 : Nat) (i6 : Int) (gv7 : Nat → Int) (gv8 : Nat → Int) (gv9 : Nat → Int) : St := ⟨sl 100 [(0, .int .i64 (p0)), (1, .int .i64 (nv1)), (5, .sptr [(0, 64)]), (9, .slice true 1 0 images3 .whole 8), (10, .slice true 2 0 sources4 .whole 8), (11, .slice true 3 0 kernel5 .whole 8), (12, .int .i64 (i6))], [⟨true, .flat 64 (.ints .u8 f2)⟩, ⟨true, .flat 0 (.ints .u8 gv7)⟩, ⟨true, .flat 0 (.ints .u8 gv8)⟩, ⟨true, .flat 0 (.ints .u8 gv9)⟩]⟩
def spec_l01Solve.sx0_0 (ov24 : Nat) (ov25 : Nat) (ov26 : Nat) (ov27 : Nat → Int) (ov28 : Nat → Int) (ov29 : Nat → Int) : St := ⟨sl 100 [(9, .slice true 0 0 ov24 .whole 8), (10, .slice true 1 0 ov25 .whole 8), (11, .slice true 2 0 ov26 .whole 8)], [⟨true, .flat 0 (.ints .u8 ov27)⟩, ⟨true, .flat 0 (.ints .u8 ov28)⟩, ⟨true, .flat 0 (.ints .u8 ov29)⟩]⟩
def spec_l01Solve.k1g {ρ : Type} (N : Nat) (L0 : St → Option ρ) (kv : XE → St → Option ρ) : XE → St → Option ρ := (blockK spec_l01Solve.kp 0 2 (seqK (xcode (E22 N) ents spec_l01Solve.kp 0 N (cB (cB (cK (cA (cB (cL (cK (cB (cA (cB (cB spec_l01Solve.bd))))))))))) 1) (blockK spec_l01Solve.kp 0 1 (seqK (xcode (E22 N) ents spec_l01Solve.kp 0 N (cB (cB (cL (cK (cB (cA (cB (cB spec_l01Solve.bd)))))))) 0) (roundK spec_l01Solve.kp 0 0 L0 kv)))))
theorem spec_l01Solve.k1_mix {ρ : Type} (N : Nat) (K : AV → Heap → Option ρ) (L0 : St → Option ρ) : mixK (spec_l01Solve.fin N K .ret) (spec_l01Solve.k1g N L0 (spec_l01Solve.k0 N K)) = (spec_l01Solve.k1g N L0 (spec_l01Solve.k0 N K)) := by
  funext e s; cases e <;> kernel_rfl
def spec_l01Solve.st1 (p0 : Int) (nv1 : Int) (f2 : Nat → Int) (images3 : Nat) (sources4 : Nat) (kernel5 : Nat) (i6 : Int) (gv7 : Nat → Int) (gv8 : Nat → Int) (gv9 : Nat → Int) (k11 : Int) (gv12 : Nat → Int) (gv13 : Nat → Int) : St := ⟨sl 100 [(0, .int .i64 (p0)), (1, .int .i64 (nv1)), (5, .sptr [(0, 64)]), (9, .slice true 1 0 images3 .whole 8), (10, .slice true 2 0 sources4 .whole 8), (11, .slice true 3 0 kernel5 .whole 8), (12, .int .i64 (i6)), (13, .sptr [(4, 8)]), (14, .sptr [(5, 8)]), (15, .int .i64 (k11))], [⟨true, .flat 64 (.ints .u8 f2)⟩, ⟨true, .flat 0 (.ints .u8 gv7)⟩, ⟨true, .flat 0 (.ints .u8 gv8)⟩, ⟨true, .flat 0 (.ints .u8 gv9)⟩, ⟨true, .flat 8 (.ints .u8 gv12)⟩, ⟨true, .flat 8 (.ints .u8 gv13)⟩]⟩
def spec_l01Solve.sx1_0 (p0 : Int) (nv1 : Int) (f2 : Nat → Int) (images3 : Nat) (sources4 : Nat) (kernel5 : Nat) (i6 : Int) (gv7 : Nat → Int) (gv8 : Nat → Int) (gv9 : Nat → Int) (ov17 : Nat → Int) (ov18 : Nat → Int) : St := ⟨sl 100 [(0, .int .i64 (p0)), (1, .int .i64 (nv1)), (5, .sptr [(0, 64)]), (9, .slice true 1 0 images3 .whole 8), (10, .slice true 2 0 sources4 .whole 8), (11, .slice true 3 0 kernel5 .whole 8), (12, .int .i64 (i6)), (13, .sptr [(4, 8)]), (14, .sptr [(5, 8)])], [⟨true, .flat 64 (.ints .u8 f2)⟩, ⟨true, .flat 0 (.ints .u8 gv7)⟩, ⟨true, .flat 0 (.ints .u8 gv8)⟩, ⟨true, .flat 0 (.ints .u8 gv9)⟩, ⟨true, .flat 8 (.ints .u8 ov17)⟩, ⟨true, .flat 8 (.ints .u8 ov18)⟩]⟩
theorem spec_l01Solve.b1_gen {ρ : Type} (N : Nat) (K : AV → Heap → Option ρ) (L1 : St → Option ρ) (kv : XE → St → Option ρ) (p0 : Int) (nv1 : Int) (f2 : Nat → Int) (images3 : Nat) (sources4 : Nat) (kernel5 : Nat) (i6 : Int) (gv7 : Nat → Int) (gv8 : Nat → Int) (gv9 : Nat → Int) (k11 : Int) (gv12 : Nat → Int) (gv13 : Nat → Int) :
    xcode (E22 N) ents spec_l01Solve.kp 0 N (cL (cK (cB (cA (cB (cK (cA (cB (cL (cK (cB (cA (cB (cB spec_l01Solve.bd)))))))))))))) 2 (spec_l01Solve.st1 p0 nv1 f2 images3 sources4 kernel5 i6 gv7 gv8 gv9 k11 gv12 gv13) (roundK spec_l01Solve.kp 0 2 L1 (mixK (spec_l01Solve.fin N K .ret) kv)) = (spec_l01Solve.b1 N (fun d0 d1 d2 d3 d4 d5 => K (.tup [.slice true 0 0 d0 .whole 8, .slice true 1 0 d1 .whole 8, .slice true 2 0 d2 .whole 8]) [⟨true, .flat 0 (.ints .u8 d3)⟩, ⟨true, .flat 0 (.ints .u8 d4)⟩, ⟨true, .flat 0 (.ints .u8 d5)⟩]) (fun k11 gv12 gv13 => L1 (spec_l01Solve.st1 p0 nv1 f2 images3 sources4 kernel5 i6 gv7 gv8 gv9 k11 gv12 gv13)) (fun ov17 ov18 => kv (.exit 2) (spec_l01Solve.sx1_0 p0 nv1 f2 images3 sources4 kernel5 i6 gv7 gv8 gv9 ov17 ov18)) p0 images3 sources4 gv7 gv8 k11 gv12 gv13) := by kernel_rfl
theorem spec_l01Solve.b1_eq {ρ : Type} (N : Nat) (K : AV → Heap → Option ρ) (L0 : St → Option ρ) (L1 : St → Option ρ) (p0 : Int) (nv1 : Int) (f2 : Nat → Int) (images3 : Nat) (sources4 : Nat) (kernel5 : Nat) (i6 : Int) (gv7 : Nat → Int) (gv8 : Nat → Int) (gv9 : Nat → Int) (k11 : Int) (gv12 : Nat → Int) (gv13 : Nat → Int) :
    xcode (E22 N) ents spec_l01Solve.kp 0 N (cL (cK (cB (cA (cB (cK (cA (cB (cL (cK (cB (cA (cB (cB spec_l01Solve.bd)))))))))))))) 2 (spec_l01Solve.st1 p0 nv1 f2 images3 sources4 kernel5 i6 gv7 gv8 gv9 k11 gv12 gv13) (roundK spec_l01Solve.kp 0 2 L1 (spec_l01Solve.k1g N L0 (spec_l01Solve.k0 N K))) = (spec_l01Solve.b1 N (fun d0 d1 d2 d3 d4 d5 => K (.tup [.slice true 0 0 d0 .whole 8, .slice true 1 0 d1 .whole 8, .slice true 2 0 d2 .whole 8]) [⟨true, .flat 0 (.ints .u8 d3)⟩, ⟨true, .flat 0 (.ints .u8 d4)⟩, ⟨true, .flat 0 (.ints .u8 d5)⟩]) (fun k11 gv12 gv13 => L1 (spec_l01Solve.st1 p0 nv1 f2 images3 sources4 kernel5 i6 gv7 gv8 gv9 k11 gv12 gv13)) (fun ov17 ov18 => (spec_l01Solve.k1g N L0 (spec_l01Solve.k0 N K)) (.exit 2) (spec_l01Solve.sx1_0 p0 nv1 f2 images3 sources4 kernel5 i6 gv7 gv8 gv9 ov17 ov18)) p0 images3 sources4 gv7 gv8 k11 gv12 gv13) := by
  have h := spec_l01Solve.b1_gen N K L1 (spec_l01Solve.k1g N L0 (spec_l01Solve.k0 N K)) p0 nv1 f2 images3 sources4 kernel5 i6 gv7 gv8 gv9 k11 gv12 gv13
  rw [spec_l01Solve.k1_mix] at h
  exact h
theorem spec_l01Solve.a1_0_gen {ρ : Type} (N : Nat) (K : AV → Heap → Option ρ) (L0 : St → Option ρ) (kv : XE → St → Option ρ) (p0 : Int) (nv1 : Int) (f2 : Nat → Int) (images3 : Nat) (sources4 : Nat) (kernel5 : Nat) (i6 : Int) (gv7 : Nat → Int) (gv8 : Nat → Int) (gv9 : Nat → Int) (ov17 : Nat → Int) (ov18 : Nat → Int) :
    (spec_l01Solve.k1g N L0 (mixK (spec_l01Solve.fin N K .ret) kv)) (.exit 2) (spec_l01Solve.sx1_0 p0 nv1 f2 images3 sources4 kernel5 i6 gv7 gv8 gv9 ov17 ov18) = (spec_l01Solve.a1_0 N (fun d0 d1 d2 d3 d4 d5 => K (.tup [.slice true 0 0 d0 .whole 8, .slice true 1 0 d1 .whole 8, .slice true 2 0 d2 .whole 8]) [⟨true, .flat 0 (.ints .u8 d3)⟩, ⟨true, .flat 0 (.ints .u8 d4)⟩, ⟨true, .flat 0 (.ints .u8 d5)⟩]) (fun images3 sources4 kernel5 i6 gv7 gv8 gv9 => L0 (spec_l01Solve.st0 p0 nv1 f2 images3 sources4 kernel5 i6 gv7 gv8 gv9)) (fun ov24 ov25 ov26 ov27 ov28 ov29 => kv (.exit 0) (spec_l01Solve.sx0_0 ov24 ov25 ov26 ov27 ov28 ov29)) p0 images3 sources4 kernel5 i6 gv7 gv8 gv9 ov17 ov18) := by kernel_rfl
theorem spec_l01Solve.a1_0_eq {ρ : Type} (N : Nat) (K : AV → Heap → Option ρ) (L0 : St → Option ρ) (p0 : Int) (nv1 : Int) (f2 : Nat → Int) (images3 : Nat) (sources4 : Nat) (kernel5 : Nat) (i6 : Int) (gv7 : Nat → Int) (gv8 : Nat → Int) (gv9 : Nat → Int) (ov17 : Nat → Int) (ov18 : Nat → Int) :
    (spec_l01Solve.k1g N L0 (spec_l01Solve.k0 N K)) (.exit 2) (spec_l01Solve.sx1_0 p0 nv1 f2 images3 sources4 kernel5 i6 gv7 gv8 gv9 ov17 ov18) = (spec_l01Solve.a1_0 N (fun d0 d1 d2 d3 d4 d5 => K (.tup [.slice true 0 0 d0 .whole 8, .slice true 1 0 d1 .whole 8, .slice true 2 0 d2 .whole 8]) [⟨true, .flat 0 (.ints .u8 d3)⟩, ⟨true, .flat 0 (.ints .u8 d4)⟩, ⟨true, .flat 0 (.ints .u8 d5)⟩]) (fun images3 sources4 kernel5 i6 gv7 gv8 gv9 => L0 (spec_l01Solve.st0 p0 nv1 f2 images3 sources4 kernel5 i6 gv7 gv8 gv9)) (fun ov24 ov25 ov26 ov27 ov28 ov29 => (spec_l01Solve.k0 N K) (.exit 0) (spec_l01Solve.sx0_0 ov24 ov25 ov26 ov27 ov28 ov29)) p0 images3 sources4 kernel5 i6 gv7 gv8 gv9 ov17 ov18) := by
  have h := spec_l01Solve.a1_0_gen N K L0 (spec_l01Solve.k0 N K) p0 nv1 f2 images3 sources4 kernel5 i6 gv7 gv8 gv9 ov17 ov18
  rw [spec_l01Solve.k0_mix] at h
  exact h
theorem spec_l01Solve.b0_gen {ρ : Type} (N : Nat) (K : AV → Heap → Option ρ) (L0 : St → Option ρ) (kv : XE → St → Option ρ) (p0 : Int) (nv1 : Int) (f2 : Nat → Int) (images3 : Nat) (sources4 : Nat) (kernel5 : Nat) (i6 : Int) (gv7 : Nat → Int) (gv8 : Nat → Int) (gv9 : Nat → Int) :
    xcode (E22 N) ents spec_l01Solve.kp 0 N (cL (cK (cB (cA (cB (cB spec_l01Solve.bd)))))) 0 (spec_l01Solve.st0 p0 nv1 f2 images3 sources4 kernel5 i6 gv7 gv8 gv9) (roundK spec_l01Solve.kp 0 0 L0 (mixK (spec_l01Solve.fin N K .ret) kv)) = (spec_l01Solve.b0 N (fun d0 d1 d2 d3 d4 d5 => K (.tup [.slice true 0 0 d0 .whole 8, .slice true 1 0 d1 .whole 8, .slice true 2 0 d2 .whole 8]) [⟨true, .flat 0 (.ints .u8 d3)⟩, ⟨true, .flat 0 (.ints .u8 d4)⟩, ⟨true, .flat 0 (.ints .u8 d5)⟩]) (fun k11 gv12 gv13 => xloop (xcode (E22 N) ents spec_l01Solve.kp 0 N (cL (cK (cB (cA (cB (cK (cA (cB (cL (cK (cB (cA (cB (cB spec_l01Solve.bd)))))))))))))) 2) spec_l01Solve.kp 0 2 N (spec_l01Solve.st1 p0 nv1 f2 images3 sources4 kernel5 i6 gv7 gv8 gv9 k11 gv12 gv13) (spec_l01Solve.k1g N L0 (mixK (spec_l01Solve.fin N K .ret) kv))) (fun images3 sources4 kernel5 i6 gv7 gv8 gv9 => L0 (spec_l01Solve.st0 p0 nv1 f2 images3 sources4 kernel5 i6 gv7 gv8 gv9)) (fun ov24 ov25 ov26 ov27 ov28 ov29 => kv (.exit 0) (spec_l01Solve.sx0_0 ov24 ov25 ov26 ov27 ov28 ov29)) nv1 f2 images3 sources4 kernel5 i6 gv7 gv8 gv9) := by kernel_rfl
theorem spec_l01Solve.b0_eq {ρ : Type} (N : Nat) (K : AV → Heap → Option ρ) (L0 : St → Option ρ) (p0 : Int) (nv1 : Int) (f2 : Nat → Int) (images3 : Nat) (sources4 : Nat) (kernel5 : Nat) (i6 : Int) (gv7 : Nat → Int) (gv8 : Nat → Int) (gv9 : Nat → Int) :
    xcode (E22 N) ents spec_l01Solve.kp 0 N (cL (cK (cB (cA (cB (cB spec_l01Solve.bd)))))) 0 (spec_l01Solve.st0 p0 nv1 f2 images3 sources4 kernel5 i6 gv7 gv8 gv9) (roundK spec_l01Solve.kp 0 0 L0 (spec_l01Solve.k0 N K)) = (spec_l01Solve.b0 N (fun d0 d1 d2 d3 d4 d5 => K (.tup [.slice true 0 0 d0 .whole 8, .slice true 1 0 d1 .whole 8, .slice true 2 0 d2 .whole 8]) [⟨true, .flat 0 (.ints .u8 d3)⟩, ⟨true, .flat 0 (.ints .u8 d4)⟩, ⟨true, .flat 0 (.ints .u8 d5)⟩]) (fun k11 gv12 gv13 => xloop (xcode (E22 N) ents spec_l01Solve.kp 0 N (cL (cK (cB (cA (cB (cK (cA (cB (cL (cK (cB (cA (cB (cB spec_l01Solve.bd)))))))))))))) 2) spec_l01Solve.kp 0 2 N (spec_l01Solve.st1 p0 nv1 f2 images3 sources4 kernel5 i6 gv7 gv8 gv9 k11 gv12 gv13) (spec_l01Solve.k1g N L0 (spec_l01Solve.k0 N K))) (fun images3 sources4 kernel5 i6 gv7 gv8 gv9 => L0 (spec_l01Solve.st0 p0 nv1 f2 images3 sources4 kernel5 i6 gv7 gv8 gv9)) (fun ov24 ov25 ov26 ov27 ov28 ov29 => (spec_l01Solve.k0 N K) (.exit 0) (spec_l01Solve.sx0_0 ov24 ov25 ov26 ov27 ov28 ov29)) nv1 f2 images3 sources4 kernel5 i6 gv7 gv8 gv9) := by
  have h := spec_l01Solve.b0_gen N K L0 (spec_l01Solve.k0 N K) p0 nv1 f2 images3 sources4 kernel5 i6 gv7 gv8 gv9
  rw [spec_l01Solve.k0_mix] at h
  exact h
theorem spec_l01Solve.a0_0_eq {ρ : Type} (N : Nat) (K : AV → Heap → Option ρ) (ov24 : Nat) (ov25 : Nat) (ov26 : Nat) (ov27 : Nat → Int) (ov28 : Nat → Int) (ov29 : Nat → Int) :
    (spec_l01Solve.k0 N K) (.exit 0) (spec_l01Solve.sx0_0 ov24 ov25 ov26 ov27 ov28 ov29) = (spec_l01Solve.a0_0 N (fun d0 d1 d2 d3 d4 d5 => K (.tup [.slice true 0 0 d0 .whole 8, .slice true 1 0 d1 .whole 8, .slice true 2 0 d2 .whole 8]) [⟨true, .flat 0 (.ints .u8 d3)⟩, ⟨true, .flat 0 (.ints .u8 d4)⟩, ⟨true, .flat 0 (.ints .u8 d5)⟩]) ov24 ov25 ov26 ov27 ov28 ov29) := by kernel_rfl
theorem spec_l01Solve.l1_eq {ρ : Type} (N : Nat) (K : AV → Heap → Option ρ) (L0 : St → Option ρ) (p0 : Int) (nv1 : Int) (f2 : Nat → Int) (images3 : Nat) (sources4 : Nat) (kernel5 : Nat) (i6 : Int) (gv7 : Nat → Int) (gv8 : Nat → Int) (gv9 : Nat → Int) :
    ∀ (m : Nat) (k11 : Int) (gv12 : Nat → Int) (gv13 : Nat → Int), xloop (xcode (E22 N) ents spec_l01Solve.kp 0 N (cL (cK (cB (cA (cB (cK (cA (cB (cL (cK (cB (cA (cB (cB spec_l01Solve.bd)))))))))))))) 2) spec_l01Solve.kp 0 2 m (spec_l01Solve.st1 p0 nv1 f2 images3 sources4 kernel5 i6 gv7 gv8 gv9 k11 gv12 gv13) (spec_l01Solve.k1g N L0 (spec_l01Solve.k0 N K)) = (spec_l01Solve.l1 N (fun d0 d1 d2 d3 d4 d5 => K (.tup [.slice true 0 0 d0 .whole 8, .slice true 1 0 d1 .whole 8, .slice true 2 0 d2 .whole 8]) [⟨true, .flat 0 (.ints .u8 d3)⟩, ⟨true, .flat 0 (.ints .u8 d4)⟩, ⟨true, .flat 0 (.ints .u8 d5)⟩]) p0 images3 sources4 gv7 gv8 (fun ov17 ov18 => (spec_l01Solve.k1g N L0 (spec_l01Solve.k0 N K)) (.exit 2) (spec_l01Solve.sx1_0 p0 nv1 f2 images3 sources4 kernel5 i6 gv7 gv8 gv9 ov17 ov18)) m k11 gv12 gv13) := by
  intro m
  induction m with
  | zero => intros; rfl
  | succ m ih =>
    intro k11 gv12 gv13
    refine (spec_l01Solve.b1_eq N K L0 (fun s => xloop (xcode (E22 N) ents spec_l01Solve.kp 0 N (cL (cK (cB (cA (cB (cK (cA (cB (cL (cK (cB (cA (cB (cB spec_l01Solve.bd)))))))))))))) 2) spec_l01Solve.kp 0 2 m s (spec_l01Solve.k1g N L0 (spec_l01Solve.k0 N K))) p0 nv1 f2 images3 sources4 kernel5 i6 gv7 gv8 gv9 k11 gv12 gv13).trans ?_
    simp only [ih]
    kernel_rfl
theorem spec_l01Solve.l0_eq {ρ : Type} (N : Nat) (K : AV → Heap → Option ρ) (p0 : Int) (nv1 : Int) (f2 : Nat → Int) :
    ∀ (m : Nat) (images3 : Nat) (sources4 : Nat) (kernel5 : Nat) (i6 : Int) (gv7 : Nat → Int) (gv8 : Nat → Int) (gv9 : Nat → Int), xloop (xcode (E22 N) ents spec_l01Solve.kp 0 N (cL (cK (cB (cA (cB (cB spec_l01Solve.bd)))))) 0) spec_l01Solve.kp 0 0 m (spec_l01Solve.st0 p0 nv1 f2 images3 sources4 kernel5 i6 gv7 gv8 gv9) (spec_l01Solve.k0 N K) = (spec_l01Solve.l0 N (fun d0 d1 d2 d3 d4 d5 => K (.tup [.slice true 0 0 d0 .whole 8, .slice true 1 0 d1 .whole 8, .slice true 2 0 d2 .whole 8]) [⟨true, .flat 0 (.ints .u8 d3)⟩, ⟨true, .flat 0 (.ints .u8 d4)⟩, ⟨true, .flat 0 (.ints .u8 d5)⟩]) p0 nv1 f2 (fun ov24 ov25 ov26 ov27 ov28 ov29 => (spec_l01Solve.k0 N K) (.exit 0) (spec_l01Solve.sx0_0 ov24 ov25 ov26 ov27 ov28 ov29)) m images3 sources4 kernel5 i6 gv7 gv8 gv9) := by
  intro m
  induction m with
  | zero => intros; rfl
  | succ m ih =>
    intro images3 sources4 kernel5 i6 gv7 gv8 gv9
    refine (spec_l01Solve.b0_eq N K (fun s => xloop (xcode (E22 N) ents spec_l01Solve.kp 0 N (cL (cK (cB (cA (cB (cB spec_l01Solve.bd)))))) 0) spec_l01Solve.kp 0 0 m s (spec_l01Solve.k0 N K)) p0 nv1 f2 images3 sources4 kernel5 i6 gv7 gv8 gv9).trans ?_
    simp only [ih, spec_l01Solve.l1_eq, spec_l01Solve.a1_0_eq]
    kernel_rfl
theorem spec_l01Solve.s_eq {ρ : Type} (N : Nat) (K : AV → Heap → Option ρ) (p0 : Int) (nv1 : Int) (f2 : Nat → Int) :
    xbody (E22 N) ents spec_l01Solve.kp N Try.f95 spec_l01Solve.bd [.int .i64 (p0), .int .i64 (nv1), .agg [⟨.u8, 64, f2⟩]] [] K = (spec_l01Solve.s N (fun d0 d1 d2 d3 d4 d5 => K (.tup [.slice true 0 0 d0 .whole 8, .slice true 1 0 d1 .whole 8, .slice true 2 0 d2 .whole 8]) [⟨true, .flat 0 (.ints .u8 d3)⟩, ⟨true, .flat 0 (.ints .u8 d4)⟩, ⟨true, .flat 0 (.ints .u8 d5)⟩]) (fun images3 sources4 kernel5 i6 gv7 gv8 gv9 => xloop (xcode (E22 N) ents spec_l01Solve.kp 0 N (cL (cK (cB (cA (cB (cB spec_l01Solve.bd)))))) 0) spec_l01Solve.kp 0 0 N (spec_l01Solve.st0 p0 nv1 f2 images3 sources4 kernel5 i6 gv7 gv8 gv9) (spec_l01Solve.k0 N K))) := by kernel_rfl
theorem spec_l01Solve.eq {ρ : Type} (N : Nat) (K : AV → Heap → Option ρ) (p0 : Int) (nv1 : Int) (f2 : Nat → Int) :
    xbody (E22 N) ents spec_l01Solve.kp N Try.f95 spec_l01Solve.bd [.int .i64 (p0), .int .i64 (nv1), .agg [⟨.u8, 64, f2⟩]] [] K = (spec_l01Solve N (fun d0 d1 d2 d3 d4 d5 => K (.tup [.slice true 0 0 d0 .whole 8, .slice true 1 0 d1 .whole 8, .slice true 2 0 d2 .whole 8]) [⟨true, .flat 0 (.ints .u8 d3)⟩, ⟨true, .flat 0 (.ints .u8 d4)⟩, ⟨true, .flat 0 (.ints .u8 d5)⟩]) p0 nv1 f2) := by
  refine (spec_l01Solve.s_eq N K p0 nv1 f2).trans ?_
  simp only [spec_l01Solve.l0_eq, spec_l01Solve.a0_0_eq]
  kernel_rfl
def spec_l01Solve.en (N : Nat) (ρ : Type) : List AV → Heap → (AV → Heap → Option ρ) → Option ρ
  | [.int .i64 (p0), .int .i64 (nv1), .agg [⟨.u8, 64, f2⟩]], [], K => (spec_l01Solve N (fun d0 d1 d2 d3 d4 d5 => K (.tup [.slice true 0 0 d0 .whole 8, .slice true 1 0 d1 .whole 8, .slice true 2 0 d2 .whole 8]) [⟨true, .flat 0 (.ints .u8 d3)⟩, ⟨true, .flat 0 (.ints .u8 d4)⟩, ⟨true, .flat 0 (.ints .u8 d5)⟩]) p0 nv1 f2)
  | _, _, _ => none
theorem spec_l01Solve.en_ok (N : Nat) (hE : EnvOk (E22 N) ents) (ρ : Type) (args : List AV) (sh : Heap) (K : AV → Heap → Option ρ) (r : ρ) (h : spec_l01Solve.en N ρ args sh K = some r) : ∃ v sh', K v sh' = some r ∧ FnOk (E22 N).P 95 args sh v sh' := by
  unfold spec_l01Solve.en at h
  split at h
  · exact fn_ok hE (kp := spec_l01Solve.kp) (N := N) Try.func95 (c := spec_l01Solve.bd) (by kernel_rfl) ((spec_l01Solve.eq N _ _ _ _).trans h)
  · cases h
def E23 (N : Nat) : Env := (E22 N).add 95 (spec_l01Solve.en N)
theorem E23_ok (N : Nat) : EnvOk (E23 N) ents := Env.add_ok (E22_ok N) (spec_l01Solve.en_ok N (E22_ok N))
def spec_l01By_su_v2.kp : Keeps := ⟨[(0, [0, 2, 4, 6, 7], [], [])], [(0, [4, 6], [], [])], []⟩
def spec_l01By_su_v2.bd : Code := bodyOf Try.f93
def spec_l01By_su_v2.fin {ρ : Type} (N : Nat) (K : AV → Heap → Option ρ) (gv3 : Nat) (gv4 : Nat → Int) : XE → St → Option ρ := finK (E23 N) spec_l01By_su_v2.kp.fins Try.f93 [⟨false, .flat gv3 (.ints .u8 gv4)⟩] K
def spec_l01By_su_v2.k0 {ρ : Type} (N : Nat) (K : AV → Heap → Option ρ) (gv3 : Nat) (gv4 : Nat → Int) : XE → St → Option ρ := (blockK spec_l01By_su_v2.kp 1 0 (seqK (xcode (E23 N) ents spec_l01By_su_v2.kp 1 N (cB (cB spec_l01By_su_v2.bd)) 0) (spec_l01By_su_v2.fin N K gv3 gv4)))
theorem spec_l01By_su_v2.k0_mix {ρ : Type} (N : Nat) (K : AV → Heap → Option ρ) (gv3 : Nat) (gv4 : Nat → Int) : mixK (spec_l01By_su_v2.fin N K gv3 gv4 .ret) (spec_l01By_su_v2.k0 N K gv3 gv4) = (spec_l01By_su_v2.k0 N K gv3 gv4) := by
  funext e s; cases e <;> kernel_rfl
def spec_l01By_su_v2.st0 (p0 : Int) (rows2 : Nat) (gv3 : Nat) (gv4 : Nat → Int) (i5 : Int) (gv6 : Nat → Int) : St := ⟨sl 37 [(0, .int .i64 (p0)), (2, .slice false 0 0 rows2 .unk 8), (4, .sptr [(1, 8)]), (6, .sptr [(2, 8)]), (7, .int .i64 (i5))], [⟨false, .flat gv3 (.ints .u8 gv4)⟩, ⟨true, .flat 8 (.ints .u8 gv6)⟩, ⟨true, .flat 8 (.ints .u8 (fun _ => 0))⟩]⟩
def spec_l01By_su_v2.sx0_0 (gv3 : Nat) (gv4 : Nat → Int) (ov9 : Nat → Int) : St := ⟨sl 37 [(4, .sptr [(1, 8)]), (6, .sptr [(2, 8)])], [⟨false, .flat gv3 (.ints .u8 gv4)⟩, ⟨true, .flat 8 (.ints .u8 ov9)⟩, ⟨true, .flat 8 (.ints .u8 (fun _ => 0))⟩]⟩
theorem spec_l01By_su_v2.b0_gen {ρ : Type} (N : Nat) (K : AV → Heap → Option ρ) (L0 : St → Option ρ) (kv : XE → St → Option ρ) (p0 : Int) (rows2 : Nat) (gv3 : Nat) (gv4 : Nat → Int) (i5 : Int) (gv6 : Nat → Int) :
    xcode (E23 N) ents spec_l01By_su_v2.kp 1 N (cL (cK (cB (cA (cB spec_l01By_su_v2.bd))))) 0 (spec_l01By_su_v2.st0 p0 rows2 gv3 gv4 i5 gv6) (roundK spec_l01By_su_v2.kp 1 0 L0 (mixK (spec_l01By_su_v2.fin N K gv3 gv4 .ret) kv)) = (spec_l01By_su_v2.b0 N (fun d0 => K (.agg [⟨.u8, 8, d0⟩]) [⟨false, .flat gv3 (.ints .u8 gv4)⟩]) (fun i5 gv6 => L0 (spec_l01By_su_v2.st0 p0 rows2 gv3 gv4 i5 gv6)) (fun ov9 => kv (.exit 0) (spec_l01By_su_v2.sx0_0 gv3 gv4 ov9)) p0 rows2 gv4 i5 gv6) := by kernel_rfl
theorem spec_l01By_su_v2.b0_eq {ρ : Type} (N : Nat) (K : AV → Heap → Option ρ) (L0 : St → Option ρ) (p0 : Int) (rows2 : Nat) (gv3 : Nat) (gv4 : Nat → Int) (i5 : Int) (gv6 : Nat → Int) :
    xcode (E23 N) ents spec_l01By_su_v2.kp 1 N (cL (cK (cB (cA (cB spec_l01By_su_v2.bd))))) 0 (spec_l01By_su_v2.st0 p0 rows2 gv3 gv4 i5 gv6) (roundK spec_l01By_su_v2.kp 1 0 L0 (spec_l01By_su_v2.k0 N K gv3 gv4)) = (spec_l01By_su_v2.b0 N (fun d0 => K (.agg [⟨.u8, 8, d0⟩]) [⟨false, .flat gv3 (.ints .u8 gv4)⟩]) (fun i5 gv6 => L0 (spec_l01By_su_v2.st0 p0 rows2 gv3 gv4 i5 gv6)) (fun ov9 => (spec_l01By_su_v2.k0 N K gv3 gv4) (.exit 0) (spec_l01By_su_v2.sx0_0 gv3 gv4 ov9)) p0 rows2 gv4 i5 gv6) := by
  have h := spec_l01By_su_v2.b0_gen N K L0 (spec_l01By_su_v2.k0 N K gv3 gv4) p0 rows2 gv3 gv4 i5 gv6
  rw [spec_l01By_su_v2.k0_mix] at h
  exact h
theorem spec_l01By_su_v2.a0_0_eq {ρ : Type} (N : Nat) (K : AV → Heap → Option ρ) (gv3 : Nat) (gv4 : Nat → Int) (ov9 : Nat → Int) :
    (spec_l01By_su_v2.k0 N K gv3 gv4) (.exit 0) (spec_l01By_su_v2.sx0_0 gv3 gv4 ov9) = (spec_l01By_su_v2.a0_0 N (fun d0 => K (.agg [⟨.u8, 8, d0⟩]) [⟨false, .flat gv3 (.ints .u8 gv4)⟩]) ov9) := by kernel_rfl
theorem spec_l01By_su_v2.l0_eq {ρ : Type} (N : Nat) (K : AV → Heap → Option ρ) (p0 : Int) (rows2 : Nat) (gv3 : Nat) (gv4 : Nat → Int) :
    ∀ (m : Nat) (i5 : Int) (gv6 : Nat → Int), xloop (xcode (E23 N) ents spec_l01By_su_v2.kp 1 N (cL (cK (cB (cA (cB spec_l01By_su_v2.bd))))) 0) spec_l01By_su_v2.kp 1 0 m (spec_l01By_su_v2.st0 p0 rows2 gv3 gv4 i5 gv6) (spec_l01By_su_v2.k0 N K gv3 gv4) = (spec_l01By_su_v2.l0 N (fun d0 => K (.agg [⟨.u8, 8, d0⟩]) [⟨false, .flat gv3 (.ints .u8 gv4)⟩]) p0 rows2 gv4 (fun ov9 => (spec_l01By_su_v2.k0 N K gv3 gv4) (.exit 0) (spec_l01By_su_v2.sx0_0 gv3 gv4 ov9)) m i5 gv6) := by
  intro m
  induction m with
  | zero => intros; rfl
  | succ m ih =>
    intro i5 gv6
    refine (spec_l01By_su_v2.b0_eq N K (fun s => xloop (xcode (E23 N) ents spec_l01By_su_v2.kp 1 N (cL (cK (cB (cA (cB spec_l01By_su_v2.bd))))) 0) spec_l01By_su_v2.kp 1 0 m s (spec_l01By_su_v2.k0 N K gv3 gv4)) p0 rows2 gv3 gv4 i5 gv6).trans ?_
    simp only [ih]
    kernel_rfl
theorem spec_l01By_su_v2.s_eq {ρ : Type} (N : Nat) (K : AV → Heap → Option ρ) (p0 : Int) (v1 : Nat → Int) (rows2 : Nat) (gv3 : Nat) (gv4 : Nat → Int) :
    xbody (E23 N) ents spec_l01By_su_v2.kp N Try.f93 spec_l01By_su_v2.bd [.int .i64 (p0), .agg [⟨.u8, 8, v1⟩], .slice false 0 0 rows2 .unk 8] [⟨false, .flat gv3 (.ints .u8 gv4)⟩] K = (spec_l01By_su_v2.s N (fun d0 => K (.agg [⟨.u8, 8, d0⟩]) [⟨false, .flat gv3 (.ints .u8 gv4)⟩]) (fun i5 gv6 => xloop (xcode (E23 N) ents spec_l01By_su_v2.kp 1 N (cL (cK (cB (cA (cB spec_l01By_su_v2.bd))))) 0) spec_l01By_su_v2.kp 1 0 N (spec_l01By_su_v2.st0 p0 rows2 gv3 gv4 i5 gv6) (spec_l01By_su_v2.k0 N K gv3 gv4)) v1) := by kernel_rfl
theorem spec_l01By_su_v2.eq {ρ : Type} (N : Nat) (K : AV → Heap → Option ρ) (p0 : Int) (v1 : Nat → Int) (rows2 : Nat) (gv3 : Nat) (gv4 : Nat → Int) :
    xbody (E23 N) ents spec_l01By_su_v2.kp N Try.f93 spec_l01By_su_v2.bd [.int .i64 (p0), .agg [⟨.u8, 8, v1⟩], .slice false 0 0 rows2 .unk 8] [⟨false, .flat gv3 (.ints .u8 gv4)⟩] K = (spec_l01By_su_v2 N (fun d0 => K (.agg [⟨.u8, 8, d0⟩]) [⟨false, .flat gv3 (.ints .u8 gv4)⟩]) p0 v1 rows2 gv3 gv4) := by
  refine (spec_l01By_su_v2.s_eq N K p0 v1 rows2 gv3 gv4).trans ?_
  simp only [spec_l01By_su_v2.l0_eq, spec_l01By_su_v2.a0_0_eq]
  kernel_rfl
def spec_l01By_su_v2.en (N : Nat) (ρ : Type) : List AV → Heap → (AV → Heap → Option ρ) → Option ρ
  | [.int .i64 (p0), .agg [⟨.u8, 8, v1⟩], .slice false 0 0 rows2 .unk 8], [⟨false, .flat gv3 (.ints .u8 gv4)⟩], K => (spec_l01By_su_v2 N (fun d0 => K (.agg [⟨.u8, 8, d0⟩]) [⟨false, .flat gv3 (.ints .u8 gv4)⟩]) p0 v1 rows2 gv3 gv4)
  | _, _, _ => none
theorem spec_l01By_su_v2.en_ok (N : Nat) (hE : EnvOk (E23 N) ents) (ρ : Type) (args : List AV) (sh : Heap) (K : AV → Heap → Option ρ) (r : ρ) (h : spec_l01By_su_v2.en N ρ args sh K = some r) : ∃ v sh', K v sh' = some r ∧ FnOk (E23 N).P 93 args sh v sh' := by
  unfold spec_l01By_su_v2.en at h
  split at h
  · exact fn_ok hE (kp := spec_l01By_su_v2.kp) (N := N) Try.func93 (c := spec_l01By_su_v2.bd) (by kernel_rfl) ((spec_l01By_su_v2.eq N _ _ _ _ _ _).trans h)
  · cases h
def E24 (N : Nat) : Env := (E23 N).add 93 (spec_l01By_su_v2.en N)
theorem E24_ok (N : Nat) : EnvOk (E24 N) ents := Env.add_ok (E23_ok N) (spec_l01By_su_v2.en_ok N (E23_ok N))
def spec_l01Put_su_v2.kp : Keeps := ⟨[(0, [0, 1, 5, 7, 8, 9, 10], [], [])], [(0, [5, 8, 9], [], [])], []⟩
def spec_l01Put_su_v2.bd : Code := bodyOf Try.f94
def spec_l01Put_su_v2.fin {ρ : Type} (N : Nat) (K : AV → Heap → Option ρ) (gv3 : Nat) (gv4 : Nat → Int) : XE → St → Option ρ := finK (E24 N) spec_l01Put_su_v2.kp.fins Try.f94 [⟨false, .flat gv3 (.ints .u8 gv4)⟩] K
def spec_l01Put_su_v2.k0 {ρ : Type} (N : Nat) (K : AV → Heap → Option ρ) (gv3 : Nat) (gv4 : Nat → Int) : XE → St → Option ρ := (blockK spec_l01Put_su_v2.kp 1 0 (seqK (xcode (E24 N) ents spec_l01Put_su_v2.kp 1 N (cB (cB (cB (cB (cB (cB (cB spec_l01Put_su_v2.bd))))))) 0) (spec_l01Put_su_v2.fin N K gv3 gv4)))
theorem spec_l01Put_su_v2.k0_mix {ρ : Type} (N : Nat) (K : AV → Heap → Option ρ) (gv3 : Nat) (gv4 : Nat → Int) : mixK (spec_l01Put_su_v2.fin N K gv3 gv4 .ret) (spec_l01Put_su_v2.k0 N K gv3 gv4) = (spec_l01Put_su_v2.k0 N K gv3 gv4) := by
  funext e s; cases e <;> kernel_rfl
def spec_l01Put_su_v2.st0 (p0 : Int) (rows1 : Nat) (gv3 : Nat) (gv4 : Nat → Int) (rv7 : Int) (rv9 : Nat → Int) (outv10 : Nat) (placed11 : Bool) (i12 : Int) (gv13 : Nat → Int) : St := ⟨sl 77 [(0, .int .i64 (p0)), (1, .slice false 0 0 rows1 .unk 8), (5, .sptr [(1, 8)]), (7, .int .i64 (rv7)), (8, .slice true 2 0 outv10 .whole 8), (9, .bool (placed11)), (10, .int .i64 (i12))], [⟨false, .flat gv3 (.ints .u8 gv4)⟩, ⟨true, .flat 8 (.ints .u8 rv9)⟩, ⟨true, .flat 0 (.ints .u8 gv13)⟩]⟩
def spec_l01Put_su_v2.sx0_0 (gv3 : Nat) (gv4 : Nat → Int) (rv9 : Nat → Int) (ov18 : Nat) (ov19 : Bool) (ov20 : Nat → Int) : St := ⟨sl 77 [(5, .sptr [(1, 8)]), (8, .slice true 2 0 ov18 .whole 8), (9, .bool (ov19))], [⟨false, .flat gv3 (.ints .u8 gv4)⟩, ⟨true, .flat 8 (.ints .u8 rv9)⟩, ⟨true, .flat 0 (.ints .u8 ov20)⟩]⟩
theorem spec_l01Put_su_v2.b0_gen {ρ : Type} (N : Nat) (K : AV → Heap → Option ρ) (L0 : St → Option ρ) (kv : XE → St → Option ρ) (p0 : Int) (rows1 : Nat) (gv3 : Nat) (gv4 : Nat → Int) (rv7 : Int) (rv9 : Nat → Int) (outv10 : Nat) (placed11 : Bool) (i12 : Int) (gv13 : Nat → Int) :
    xcode (E24 N) ents spec_l01Put_su_v2.kp 1 N (cL (cK (cB (cA (cB (cB (cB (cB (cB (cB spec_l01Put_su_v2.bd)))))))))) 0 (spec_l01Put_su_v2.st0 p0 rows1 gv3 gv4 rv7 rv9 outv10 placed11 i12 gv13) (roundK spec_l01Put_su_v2.kp 1 0 L0 (mixK (spec_l01Put_su_v2.fin N K gv3 gv4 .ret) kv)) = (spec_l01Put_su_v2.b0 N (fun d0 => K (.slice false 0 0 d0 .unk 8) [⟨false, .flat gv3 (.ints .u8 gv4)⟩]) (fun d0 d1 => K (.slice true 1 0 d0 .whole 8) [⟨false, .flat gv3 (.ints .u8 gv4)⟩, ⟨true, .flat 0 (.ints .u8 d1)⟩]) (fun outv10 placed11 i12 gv13 => L0 (spec_l01Put_su_v2.st0 p0 rows1 gv3 gv4 rv7 rv9 outv10 placed11 i12 gv13)) (fun ov18 ov19 ov20 => kv (.exit 0) (spec_l01Put_su_v2.sx0_0 gv3 gv4 rv9 ov18 ov19 ov20)) p0 rows1 gv4 rv7 rv9 outv10 placed11 i12 gv13) := by kernel_rfl
theorem spec_l01Put_su_v2.b0_eq {ρ : Type} (N : Nat) (K : AV → Heap → Option ρ) (L0 : St → Option ρ) (p0 : Int) (rows1 : Nat) (gv3 : Nat) (gv4 : Nat → Int) (rv7 : Int) (rv9 : Nat → Int) (outv10 : Nat) (placed11 : Bool) (i12 : Int) (gv13 : Nat → Int) :
    xcode (E24 N) ents spec_l01Put_su_v2.kp 1 N (cL (cK (cB (cA (cB (cB (cB (cB (cB (cB spec_l01Put_su_v2.bd)))))))))) 0 (spec_l01Put_su_v2.st0 p0 rows1 gv3 gv4 rv7 rv9 outv10 placed11 i12 gv13) (roundK spec_l01Put_su_v2.kp 1 0 L0 (spec_l01Put_su_v2.k0 N K gv3 gv4)) = (spec_l01Put_su_v2.b0 N (fun d0 => K (.slice false 0 0 d0 .unk 8) [⟨false, .flat gv3 (.ints .u8 gv4)⟩]) (fun d0 d1 => K (.slice true 1 0 d0 .whole 8) [⟨false, .flat gv3 (.ints .u8 gv4)⟩, ⟨true, .flat 0 (.ints .u8 d1)⟩]) (fun outv10 placed11 i12 gv13 => L0 (spec_l01Put_su_v2.st0 p0 rows1 gv3 gv4 rv7 rv9 outv10 placed11 i12 gv13)) (fun ov18 ov19 ov20 => (spec_l01Put_su_v2.k0 N K gv3 gv4) (.exit 0) (spec_l01Put_su_v2.sx0_0 gv3 gv4 rv9 ov18 ov19 ov20)) p0 rows1 gv4 rv7 rv9 outv10 placed11 i12 gv13) := by
  have h := spec_l01Put_su_v2.b0_gen N K L0 (spec_l01Put_su_v2.k0 N K gv3 gv4) p0 rows1 gv3 gv4 rv7 rv9 outv10 placed11 i12 gv13
  rw [spec_l01Put_su_v2.k0_mix] at h
  exact h
theorem spec_l01Put_su_v2.a0_0_eq {ρ : Type} (N : Nat) (K : AV → Heap → Option ρ) (gv3 : Nat) (gv4 : Nat → Int) (rv9 : Nat → Int) (ov18 : Nat) (ov19 : Bool) (ov20 : Nat → Int) :
    (spec_l01Put_su_v2.k0 N K gv3 gv4) (.exit 0) (spec_l01Put_su_v2.sx0_0 gv3 gv4 rv9 ov18 ov19 ov20) = (spec_l01Put_su_v2.a0_0 N (fun d0 => K (.slice false 0 0 d0 .unk 8) [⟨false, .flat gv3 (.ints .u8 gv4)⟩]) (fun d0 d1 => K (.slice true 1 0 d0 .whole 8) [⟨false, .flat gv3 (.ints .u8 gv4)⟩, ⟨true, .flat 0 (.ints .u8 d1)⟩]) rv9 ov18 ov19 ov20) := by kernel_rfl
theorem spec_l01Put_su_v2.l0_eq {ρ : Type} (N : Nat) (K : AV → Heap → Option ρ) (p0 : Int) (rows1 : Nat) (gv3 : Nat) (gv4 : Nat → Int) (rv7 : Int) (rv9 : Nat → Int) :
    ∀ (m : Nat) (outv10 : Nat) (placed11 : Bool) (i12 : Int) (gv13 : Nat → Int), xloop (xcode (E24 N) ents spec_l01Put_su_v2.kp 1 N (cL (cK (cB (cA (cB (cB (cB (cB (cB (cB spec_l01Put_su_v2.bd)))))))))) 0) spec_l01Put_su_v2.kp 1 0 m (spec_l01Put_su_v2.st0 p0 rows1 gv3 gv4 rv7 rv9 outv10 placed11 i12 gv13) (spec_l01Put_su_v2.k0 N K gv3 gv4) = (spec_l01Put_su_v2.l0 N (fun d0 => K (.slice false 0 0 d0 .unk 8) [⟨false, .flat gv3 (.ints .u8 gv4)⟩]) (fun d0 d1 => K (.slice true 1 0 d0 .whole 8) [⟨false, .flat gv3 (.ints .u8 gv4)⟩, ⟨true, .flat 0 (.ints .u8 d1)⟩]) p0 rows1 gv4 rv7 rv9 (fun ov18 ov19 ov20 => (spec_l01Put_su_v2.k0 N K gv3 gv4) (.exit 0) (spec_l01Put_su_v2.sx0_0 gv3 gv4 rv9 ov18 ov19 ov20)) m outv10 placed11 i12 gv13) := by
  intro m
  induction m with
  | zero => intros; rfl
  | succ m ih =>
    intro outv10 placed11 i12 gv13
    refine (spec_l01Put_su_v2.b0_eq N K (fun s => xloop (xcode (E24 N) ents spec_l01Put_su_v2.kp 1 N (cL (cK (cB (cA (cB (cB (cB (cB (cB (cB spec_l01Put_su_v2.bd)))))))))) 0) spec_l01Put_su_v2.kp 1 0 m s (spec_l01Put_su_v2.k0 N K gv3 gv4)) p0 rows1 gv3 gv4 rv7 rv9 outv10 placed11 i12 gv13).trans ?_
    simp only [ih]
    kernel_rfl
theorem spec_l01Put_su_v2.s_eq {ρ : Type} (N : Nat) (K : AV → Heap → Option ρ) (p0 : Int) (rows1 : Nat) (v2 : Nat → Int) (gv3 : Nat) (gv4 : Nat → Int) :
    xbody (E24 N) ents spec_l01Put_su_v2.kp N Try.f94 spec_l01Put_su_v2.bd [.int .i64 (p0), .slice false 0 0 rows1 .unk 8, .agg [⟨.u8, 8, v2⟩]] [⟨false, .flat gv3 (.ints .u8 gv4)⟩] K = (spec_l01Put_su_v2.s N (fun d0 => K (.slice false 0 0 d0 .unk 8) [⟨false, .flat gv3 (.ints .u8 gv4)⟩]) (fun d0 d1 => K (.slice true 1 0 d0 .whole 8) [⟨false, .flat gv3 (.ints .u8 gv4)⟩, ⟨true, .flat 0 (.ints .u8 d1)⟩]) (fun rv7 rv9 outv10 placed11 i12 gv13 => xloop (xcode (E24 N) ents spec_l01Put_su_v2.kp 1 N (cL (cK (cB (cA (cB (cB (cB (cB (cB (cB spec_l01Put_su_v2.bd)))))))))) 0) spec_l01Put_su_v2.kp 1 0 N (spec_l01Put_su_v2.st0 p0 rows1 gv3 gv4 rv7 rv9 outv10 placed11 i12 gv13) (spec_l01Put_su_v2.k0 N K gv3 gv4)) p0 rows1 v2 gv4) := by kernel_rfl
theorem spec_l01Put_su_v2.eq {ρ : Type} (N : Nat) (K : AV → Heap → Option ρ) (p0 : Int) (rows1 : Nat) (v2 : Nat → Int) (gv3 : Nat) (gv4 : Nat → Int) :
    xbody (E24 N) ents spec_l01Put_su_v2.kp N Try.f94 spec_l01Put_su_v2.bd [.int .i64 (p0), .slice false 0 0 rows1 .unk 8, .agg [⟨.u8, 8, v2⟩]] [⟨false, .flat gv3 (.ints .u8 gv4)⟩] K = (spec_l01Put_su_v2 N (fun d0 => K (.slice false 0 0 d0 .unk 8) [⟨false, .flat gv3 (.ints .u8 gv4)⟩]) (fun d0 d1 => K (.slice true 1 0 d0 .whole 8) [⟨false, .flat gv3 (.ints .u8 gv4)⟩, ⟨true, .flat 0 (.ints .u8 d1)⟩]) p0 rows1 v2 gv3 gv4) := by
  refine (spec_l01Put_su_v2.s_eq N K p0 rows1 v2 gv3 gv4).trans ?_
  simp only [spec_l01Put_su_v2.l0_eq, spec_l01Put_su_v2.a0_0_eq]
  kernel_rfl
def spec_l01Put_su_v2.en (N : Nat) (ρ : Type) : List AV → Heap → (AV → Heap → Option ρ) → Option ρ
  | [.int .i64 (p0), .slice false 0 0 rows1 .unk 8, .agg [⟨.u8, 8, v2⟩]], [⟨false, .flat gv3 (.ints .u8 gv4)⟩], K => (spec_l01Put_su_v2 N (fun d0 => K (.slice false 0 0 d0 .unk 8) [⟨false, .flat gv3 (.ints .u8 gv4)⟩]) (fun d0 d1 => K (.slice true 1 0 d0 .whole 8) [⟨false, .flat gv3 (.ints .u8 gv4)⟩, ⟨true, .flat 0 (.ints .u8 d1)⟩]) p0 rows1 v2 gv3 gv4)
  | _, _, _ => none
theorem spec_l01Put_su_v2.en_ok (N : Nat) (hE : EnvOk (E24 N) ents) (ρ : Type) (args : List AV) (sh : Heap) (K : AV → Heap → Option ρ) (r : ρ) (h : spec_l01Put_su_v2.en N ρ args sh K = some r) : ∃ v sh', K v sh' = some r ∧ FnOk (E24 N).P 94 args sh v sh' := by
  unfold spec_l01Put_su_v2.en at h
  split at h
  · exact fn_ok hE (kp := spec_l01Put_su_v2.kp) (N := N) Try.func94 (c := spec_l01Put_su_v2.bd) (by kernel_rfl) ((spec_l01Put_su_v2.eq N _ _ _ _ _ _).trans h)
  · cases h
def E25 (N : Nat) : Env := (E24 N).add 94 (spec_l01Put_su_v2.en N)
theorem E25_ok (N : Nat) : EnvOk (E25 N) ents := Env.add_ok (E24_ok N) (spec_l01Put_su_v2.en_ok N (E24_ok N))
def spec_l01Reduce_su.kp : Keeps := ⟨[(0, [0, 1, 5, 6], [(.slot 5, .unk (.ints .u8 (fun _ => 0)) 8)], [])], [(0, [5], [], [])], []⟩
def spec_l01Reduce_su.bd : Code := bodyOf Try.f96
def spec_l01Reduce_su.fin {ρ : Type} (N : Nat) (K : AV → Heap → Option ρ) (gv2 : Nat) (gv3 : Nat → Int) : XE → St → Option ρ := finK (E25 N) spec_l01Reduce_su.kp.fins Try.f96 [⟨false, .flat gv2 (.ints .u8 gv3)⟩] K
def spec_l01Reduce_su.k0 {ρ : Type} (N : Nat) (K : AV → Heap → Option ρ) (gv2 : Nat) (gv3 : Nat → Int) : XE → St → Option ρ := (blockK spec_l01Reduce_su.kp 1 0 (seqK (xcode (E25 N) ents spec_l01Reduce_su.kp 1 N (cB (cB (cB spec_l01Reduce_su.bd))) 0) (spec_l01Reduce_su.fin N K gv2 gv3)))
theorem spec_l01Reduce_su.k0_mix {ρ : Type} (N : Nat) (K : AV → Heap → Option ρ) (gv2 : Nat) (gv3 : Nat → Int) : mixK (spec_l01Reduce_su.fin N K gv2 gv3 .ret) (spec_l01Reduce_su.k0 N K gv2 gv3) = (spec_l01Reduce_su.k0 N K gv2 gv3) := by
  funext e s; cases e <;> kernel_rfl
def spec_l01Reduce_su.st0 (p0 : Int) (list1 : Nat) (gv2 : Nat) (gv3 : Nat → Int) (outv4 : Nat) (i5 : Int) (gv6 : Nat → Int) : St := ⟨sl 22 [(0, .int .i64 (p0)), (1, .slice true 0 0 list1 .unk 8), (5, .slice false 1 0 outv4 .unk 8), (6, .int .i64 (i5))], [⟨false, .flat gv2 (.ints .u8 gv3)⟩, ⟨true, .flat 0 (.ints .u8 gv6)⟩]⟩
def spec_l01Reduce_su.sx0_0 (gv2 : Nat) (gv3 : Nat → Int) (ov10 : Nat) (ov11 : Nat → Int) : St := ⟨sl 22 [(5, .slice false 1 0 ov10 .unk 8)], [⟨false, .flat gv2 (.ints .u8 gv3)⟩, ⟨true, .flat 0 (.ints .u8 ov11)⟩]⟩
theorem spec_l01Reduce_su.b0_gen {ρ : Type} (N : Nat) (K : AV → Heap → Option ρ) (L0 : St → Option ρ) (kv : XE → St → Option ρ) (p0 : Int) (list1 : Nat) (gv2 : Nat) (gv3 : Nat → Int) (outv4 : Nat) (i5 : Int) (gv6 : Nat → Int) :
    xcode (E25 N) ents spec_l01Reduce_su.kp 1 N (cL (cK (cB (cA (cB (cB spec_l01Reduce_su.bd)))))) 0 (spec_l01Reduce_su.st0 p0 list1 gv2 gv3 outv4 i5 gv6) (roundK spec_l01Reduce_su.kp 1 0 L0 (mixK (spec_l01Reduce_su.fin N K gv2 gv3 .ret) kv)) = (spec_l01Reduce_su.b0 N (fun d0 d1 => K (.slice false 1 0 d0 .unk 8) [⟨false, .flat gv2 (.ints .u8 gv3)⟩, ⟨true, .flat 0 (.ints .u8 d1)⟩]) (fun outv4 i5 gv6 => L0 (spec_l01Reduce_su.st0 p0 list1 gv2 gv3 outv4 i5 gv6)) (fun ov10 ov11 => kv (.exit 0) (spec_l01Reduce_su.sx0_0 gv2 gv3 ov10 ov11)) p0 list1 gv3 outv4 i5 gv6) := by kernel_rfl
theorem spec_l01Reduce_su.b0_eq {ρ : Type} (N : Nat) (K : AV → Heap → Option ρ) (L0 : St → Option ρ) (p0 : Int) (list1 : Nat) (gv2 : Nat) (gv3 : Nat → Int) (outv4 : Nat) (i5 : Int) (gv6 : Nat → Int) :
    xcode (E25 N) ents spec_l01Reduce_su.kp 1 N (cL (cK (cB (cA (cB (cB spec_l01Reduce_su.bd)))))) 0 (spec_l01Reduce_su.st0 p0 list1 gv2 gv3 outv4 i5 gv6) (roundK spec_l01Reduce_su.kp 1 0 L0 (spec_l01Reduce_su.k0 N K gv2 gv3)) = (spec_l01Reduce_su.b0 N (fun d0 d1 => K (.slice false 1 0 d0 .unk 8) [⟨false, .flat gv2 (.ints .u8 gv3)⟩, ⟨true, .flat 0 (.ints .u8 d1)⟩]) (fun outv4 i5 gv6 => L0 (spec_l01Reduce_su.st0 p0 list1 gv2 gv3 outv4 i5 gv6)) (fun ov10 ov11 => (spec_l01Reduce_su.k0 N K gv2 gv3) (.exit 0) (spec_l01Reduce_su.sx0_0 gv2 gv3 ov10 ov11)) p0 list1 gv3 outv4 i5 gv6) := by
  have h := spec_l01Reduce_su.b0_gen N K L0 (spec_l01Reduce_su.k0 N K gv2 gv3) p0 list1 gv2 gv3 outv4 i5 gv6
  rw [spec_l01Reduce_su.k0_mix] at h
  exact h
theorem spec_l01Reduce_su.a0_0_eq {ρ : Type} (N : Nat) (K : AV → Heap → Option ρ) (gv2 : Nat) (gv3 : Nat → Int) (ov10 : Nat) (ov11 : Nat → Int) :
    (spec_l01Reduce_su.k0 N K gv2 gv3) (.exit 0) (spec_l01Reduce_su.sx0_0 gv2 gv3 ov10 ov11) = (spec_l01Reduce_su.a0_0 N (fun d0 d1 => K (.slice false 1 0 d0 .unk 8) [⟨false, .flat gv2 (.ints .u8 gv3)⟩, ⟨true, .flat 0 (.ints .u8 d1)⟩]) ov10 ov11) := by kernel_rfl
theorem spec_l01Reduce_su.l0_eq {ρ : Type} (N : Nat) (K : AV → Heap → Option ρ) (p0 : Int) (list1 : Nat) (gv2 : Nat) (gv3 : Nat → Int) :
    ∀ (m : Nat) (outv4 : Nat) (i5 : Int) (gv6 : Nat → Int), xloop (xcode (E25 N) ents spec_l01Reduce_su.kp 1 N (cL (cK (cB (cA (cB (cB spec_l01Reduce_su.bd)))))) 0) spec_l01Reduce_su.kp 1 0 m (spec_l01Reduce_su.st0 p0 list1 gv2 gv3 outv4 i5 gv6) (spec_l01Reduce_su.k0 N K gv2 gv3) = (spec_l01Reduce_su.l0 N (fun d0 d1 => K (.slice false 1 0 d0 .unk 8) [⟨false, .flat gv2 (.ints .u8 gv3)⟩, ⟨true, .flat 0 (.ints .u8 d1)⟩]) p0 list1 gv3 (fun ov10 ov11 => (spec_l01Reduce_su.k0 N K gv2 gv3) (.exit 0) (spec_l01Reduce_su.sx0_0 gv2 gv3 ov10 ov11)) m outv4 i5 gv6) := by
  intro m
  induction m with
  | zero => intros; rfl
  | succ m ih =>
    intro outv4 i5 gv6
    refine (spec_l01Reduce_su.b0_eq N K (fun s => xloop (xcode (E25 N) ents spec_l01Reduce_su.kp 1 N (cL (cK (cB (cA (cB (cB spec_l01Reduce_su.bd)))))) 0) spec_l01Reduce_su.kp 1 0 m s (spec_l01Reduce_su.k0 N K gv2 gv3)) p0 list1 gv2 gv3 outv4 i5 gv6).trans ?_
    simp only [ih]
    kernel_rfl
theorem spec_l01Reduce_su.s_eq {ρ : Type} (N : Nat) (K : AV → Heap → Option ρ) (p0 : Int) (list1 : Nat) (gv2 : Nat) (gv3 : Nat → Int) :
    xbody (E25 N) ents spec_l01Reduce_su.kp N Try.f96 spec_l01Reduce_su.bd [.int .i64 (p0), .slice true 0 0 list1 .unk 8] [⟨false, .flat gv2 (.ints .u8 gv3)⟩] K = (spec_l01Reduce_su.s N (fun d0 d1 => K (.slice false 1 0 d0 .unk 8) [⟨false, .flat gv2 (.ints .u8 gv3)⟩, ⟨true, .flat 0 (.ints .u8 d1)⟩]) (fun outv4 i5 gv6 => xloop (xcode (E25 N) ents spec_l01Reduce_su.kp 1 N (cL (cK (cB (cA (cB (cB spec_l01Reduce_su.bd)))))) 0) spec_l01Reduce_su.kp 1 0 N (spec_l01Reduce_su.st0 p0 list1 gv2 gv3 outv4 i5 gv6) (spec_l01Reduce_su.k0 N K gv2 gv3))) := by kernel_rfl
theorem spec_l01Reduce_su.eq {ρ : Type} (N : Nat) (K : AV → Heap → Option ρ) (p0 : Int) (list1 : Nat) (gv2 : Nat) (gv3 : Nat → Int) :
    xbody (E25 N) ents spec_l01Reduce_su.kp N Try.f96 spec_l01Reduce_su.bd [.int .i64 (p0), .slice true 0 0 list1 .unk 8] [⟨false, .flat gv2 (.ints .u8 gv3)⟩] K = (spec_l01Reduce_su N (fun d0 d1 => K (.slice false 1 0 d0 .unk 8) [⟨false, .flat gv2 (.ints .u8 gv3)⟩, ⟨true, .flat 0 (.ints .u8 d1)⟩]) p0 list1 gv2 gv3) := by
  refine (spec_l01Reduce_su.s_eq N K p0 list1 gv2 gv3).trans ?_
  simp only [spec_l01Reduce_su.l0_eq, spec_l01Reduce_su.a0_0_eq]
  kernel_rfl
def spec_l01Reduce_su.en (N : Nat) (ρ : Type) : List AV → Heap → (AV → Heap → Option ρ) → Option ρ
  | [.int .i64 (p0), .slice true 0 0 list1 .unk 8], [⟨false, .flat gv2 (.ints .u8 gv3)⟩], K => (spec_l01Reduce_su N (fun d0 d1 => K (.slice false 1 0 d0 .unk 8) [⟨false, .flat gv2 (.ints .u8 gv3)⟩, ⟨true, .flat 0 (.ints .u8 d1)⟩]) p0 list1 gv2 gv3)
  | _, _, _ => none
theorem spec_l01Reduce_su.en_ok (N : Nat) (hE : EnvOk (E25 N) ents) (ρ : Type) (args : List AV) (sh : Heap) (K : AV → Heap → Option ρ) (r : ρ) (h : spec_l01Reduce_su.en N ρ args sh K = some r) : ∃ v sh', K v sh' = some r ∧ FnOk (E25 N).P 96 args sh v sh' := by
  unfold spec_l01Reduce_su.en at h
  split at h
  · exact fn_ok hE (kp := spec_l01Reduce_su.kp) (N := N) Try.func96 (c := spec_l01Reduce_su.bd) (by kernel_rfl) ((spec_l01Reduce_su.eq N _ _ _ _ _).trans h)
  · cases h
def E26 (N : Nat) : Env := (E25 N).add 96 (spec_l01Reduce_su.en N)
theorem E26_ok (N : Nat) : EnvOk (E26 N) ents := Env.add_ok (E25_ok N) (spec_l01Reduce_su.en_ok N (E25_ok N))
def spec_l01Kernel.kp : Keeps := ⟨[], [], []⟩
def spec_l01Kernel.bd : Code := bodyOf Try.f79
def spec_l01Kernel.fin {ρ : Type} (N : Nat) (K : AV → Heap → Option ρ) : XE → St → Option ρ := finK (E26 N) spec_l01Kernel.kp.fins Try.f79 [] K
theorem spec_l01Kernel.eq {ρ : Type} (N : Nat) (K : AV → Heap → Option ρ) (p0 : Int) (nv1 : Int) (f2 : Nat → Int) :
    xbody (E26 N) ents spec_l01Kernel.kp N Try.f79 spec_l01Kernel.bd [.int .i64 (p0), .int .i64 (nv1), .agg [⟨.u8, 64, f2⟩]] [] K = (spec_l01Kernel N (fun d0 d1 => K (.slice false 0 0 d0 .unk 8) [⟨true, .flat 0 (.ints .u8 d1)⟩]) p0 nv1 f2) := by kernel_rfl
def spec_l01Kernel.en (N : Nat) (ρ : Type) : List AV → Heap → (AV → Heap → Option ρ) → Option ρ
  | [.int .i64 (p0), .int .i64 (nv1), .agg [⟨.u8, 64, f2⟩]], [], K => (spec_l01Kernel N (fun d0 d1 => K (.slice false 0 0 d0 .unk 8) [⟨true, .flat 0 (.ints .u8 d1)⟩]) p0 nv1 f2)
  | _, _, _ => none
theorem spec_l01Kernel.en_ok (N : Nat) (hE : EnvOk (E26 N) ents) (ρ : Type) (args : List AV) (sh : Heap) (K : AV → Heap → Option ρ) (r : ρ) (h : spec_l01Kernel.en N ρ args sh K = some r) : ∃ v sh', K v sh' = some r ∧ FnOk (E26 N).P 79 args sh v sh' := by
  unfold spec_l01Kernel.en at h
  split at h
  · exact fn_ok hE (kp := spec_l01Kernel.kp) (N := N) Try.func79 (c := spec_l01Kernel.bd) (by kernel_rfl) ((spec_l01Kernel.eq N _ _ _ _).trans h)
  · cases h
def E27 (N : Nat) : Env := (E26 N).add 79 (spec_l01Kernel.en N)
theorem E27_ok (N : Nat) : EnvOk (E27 N) ents := Env.add_ok (E26_ok N) (spec_l01Kernel.en_ok N (E26_ok N))
def spec_l01Meet_susu_v2.kp : Keeps := ⟨[(0, [0, 1, 2, 7, 8, 9], [], []), (2, [0, 1, 7, 10, 11], [(.slot 7, .unk (.ints .u8 (fun _ => 0)) 8)], []), (4, [0, 1, 7, 10, 11, 12, 13], [], [])], [(0, [0, 1, 7, 8], [], []), (2, [7], [], []), (4, [0, 1, 7, 10, 11, 12], [], [])], []⟩
def spec_l01Meet_susu_v2.bd : Code := bodyOf Try.f78
def spec_l01Meet_susu_v2.fin {ρ : Type} (N : Nat) (K : AV → Heap → Option ρ) (gv3 : Nat) (gv4 : Nat → Int) (gv5 : Nat) (gv6 : Nat → Int) : XE → St → Option ρ := finK (E27 N) spec_l01Meet_susu_v2.kp.fins Try.f78 [⟨false, .flat gv3 (.ints .u8 gv4)⟩, ⟨false, .flat gv5 (.ints .u8 gv6)⟩] K
def spec_l01Meet_susu_v2.k0 {ρ : Type} (N : Nat) (K : AV → Heap → Option ρ) (gv3 : Nat) (gv4 : Nat → Int) (gv5 : Nat) (gv6 : Nat → Int) : XE → St → Option ρ := (blockK spec_l01Meet_susu_v2.kp 2 0 (seqK (xcode (E27 N) ents spec_l01Meet_susu_v2.kp 2 N (cB (cB (cB (cB spec_l01Meet_susu_v2.bd)))) 0) (spec_l01Meet_susu_v2.fin N K gv3 gv4 gv5 gv6)))
theorem spec_l01Meet_susu_v2.k0_mix {ρ : Type} (N : Nat) (K : AV → Heap → Option ρ) (gv3 : Nat) (gv4 : Nat → Int) (gv5 : Nat) (gv6 : Nat → Int) : mixK (spec_l01Meet_susu_v2.fin N K gv3 gv4 gv5 gv6 .ret) (spec_l01Meet_susu_v2.k0 N K gv3 gv4 gv5 gv6) = (spec_l01Meet_susu_v2.k0 N K gv3 gv4 gv5 gv6) := by
  funext e s; cases e <;> kernel_rfl
def spec_l01Meet_susu_v2.st0 (p0 : Int) (one1 : Nat) (two2 : Nat) (gv3 : Nat) (gv4 : Nat → Int) (gv5 : Nat) (gv6 : Nat → Int) (i7 : Int) (gv8 : Nat → Int) : St := ⟨sl 68 [(0, .int .i64 (p0)), (1, .slice false 0 0 one1 .unk 8), (2, .slice false 1 0 two2 .unk 8), (7, .slice true 2 0 0 .whole 8), (8, .sptr [(3, 64)]), (9, .int .i64 (i7))], [⟨false, .flat gv3 (.ints .u8 gv4)⟩, ⟨false, .flat gv5 (.ints .u8 gv6)⟩, ⟨true, .flat 0 (.ints .u8 (fun _ => 0))⟩, ⟨true, .flat 64 (.ints .u8 gv8)⟩]⟩
def spec_l01Meet_susu_v2.sx0_0 (p0 : Int) (one1 : Nat) (gv3 : Nat) (gv4 : Nat → Int) (gv5 : Nat) (gv6 : Nat → Int) (ov10 : Nat → Int) : St := ⟨sl 68 [(0, .int .i64 (p0)), (1, .slice false 0 0 one1 .unk 8), (7, .slice true 2 0 0 .whole 8), (8, .sptr [(3, 64)])], [⟨false, .flat gv3 (.ints .u8 gv4)⟩, ⟨false, .flat gv5 (.ints .u8 gv6)⟩, ⟨true, .flat 0 (.ints .u8 (fun _ => 0))⟩, ⟨true, .flat 64 (.ints .u8 ov10)⟩]⟩
def spec_l01Meet_susu_v2.k1 {ρ : Type} (N : Nat) (K : AV → Heap → Option ρ) (gv3 : Nat) (gv4 : Nat → Int) (gv5 : Nat) (gv6 : Nat → Int) : XE → St → Option ρ := (blockK spec_l01Meet_susu_v2.kp 2 2 (seqK (xcode (E27 N) ents spec_l01Meet_susu_v2.kp 2 N (cB (cB (cB (cB (cB (cB spec_l01Meet_susu_v2.bd)))))) 0) (spec_l01Meet_susu_v2.fin N K gv3 gv4 gv5 gv6)))
theorem spec_l01Meet_susu_v2.k1_mix {ρ : Type} (N : Nat) (K : AV → Heap → Option ρ) (gv3 : Nat) (gv4 : Nat → Int) (gv5 : Nat) (gv6 : Nat → Int) : mixK (spec_l01Meet_susu_v2.fin N K gv3 gv4 gv5 gv6 .ret) (spec_l01Meet_susu_v2.k1 N K gv3 gv4 gv5 gv6) = (spec_l01Meet_susu_v2.k1 N K gv3 gv4 gv5 gv6) := by
  funext e s; cases e <;> kernel_rfl
def spec_l01Meet_susu_v2.st1 (p0 : Int) (one1 : Nat) (gv3 : Nat) (gv4 : Nat → Int) (gv5 : Nat) (gv6 : Nat → Int) (rv11 : Nat) (rv12 : Nat → Int) (outv13 : Nat) (i14 : Int) (gv15 : Nat → Int) : St := ⟨sl 68 [(0, .int .i64 (p0)), (1, .slice false 0 0 one1 .unk 8), (7, .slice false 2 0 outv13 .unk 8), (10, .slice false 3 0 rv11 .unk 8), (11, .int .i64 (i14))], [⟨false, .flat gv3 (.ints .u8 gv4)⟩, ⟨false, .flat gv5 (.ints .u8 gv6)⟩, ⟨true, .flat 0 (.ints .u8 gv15)⟩, ⟨true, .flat 0 (.ints .u8 rv12)⟩]⟩
def spec_l01Meet_susu_v2.sx1_0 (gv3 : Nat) (gv4 : Nat → Int) (gv5 : Nat) (gv6 : Nat → Int) (ov23 : Nat) (ov24 : Nat → Int) : St := ⟨sl 68 [(7, .slice false 2 0 ov23 .unk 8)], [⟨false, .flat gv3 (.ints .u8 gv4)⟩, ⟨false, .flat gv5 (.ints .u8 gv6)⟩, ⟨true, .flat 0 (.ints .u8 ov24)⟩]⟩
def spec_l01Meet_susu_v2.k2g {ρ : Type} (N : Nat) (L1 : St → Option ρ) (kv : XE → St → Option ρ) : XE → St → Option ρ := (blockK spec_l01Meet_susu_v2.kp 2 4 (seqK (xcode (E27 N) ents spec_l01Meet_susu_v2.kp 2 N (cB (cB (cK (cA (cB (cL (cK (cB (cA (cB (cB (cB (cB (cB spec_l01Meet_susu_v2.bd)))))))))))))) 3) (blockK spec_l01Meet_susu_v2.kp 2 3 (seqK (xcode (E27 N) ents spec_l01Meet_susu_v2.kp 2 N (cB (cB (cL (cK (cB (cA (cB (cB (cB (cB (cB spec_l01Meet_susu_v2.bd))))))))))) 2) (roundK spec_l01Meet_susu_v2.kp 2 2 L1 kv)))))
theorem spec_l01Meet_susu_v2.k2_mix {ρ : Type} (N : Nat) (K : AV → Heap → Option ρ) (L1 : St → Option ρ) (gv3 : Nat) (gv4 : Nat → Int) (gv5 : Nat) (gv6 : Nat → Int) : mixK (spec_l01Meet_susu_v2.fin N K gv3 gv4 gv5 gv6 .ret) (spec_l01Meet_susu_v2.k2g N L1 (spec_l01Meet_susu_v2.k1 N K gv3 gv4 gv5 gv6)) = (spec_l01Meet_susu_v2.k2g N L1 (spec_l01Meet_susu_v2.k1 N K gv3 gv4 gv5 gv6)) := by
  funext e s; cases e <;> kernel_rfl
def spec_l01Meet_susu_v2.st2 (p0 : Int) (one1 : Nat) (gv3 : Nat) (gv4 : Nat → Int) (gv5 : Nat) (gv6 : Nat → Int) (rv11 : Nat) (rv12 : Nat → Int) (outv13 : Nat) (i14 : Int) (gv15 : Nat → Int) (k16 : Int) (gv17 : Nat → Int) : St := ⟨sl 68 [(0, .int .i64 (p0)), (1, .slice false 0 0 one1 .unk 8), (7, .slice false 2 0 outv13 .unk 8), (10, .slice false 3 0 rv11 .unk 8), (11, .int .i64 (i14)), (12, .sptr [(4, 8)]), (13, .int .i64 (k16))], [⟨false, .flat gv3 (.ints .u8 gv4)⟩, ⟨false, .flat gv5 (.ints .u8 gv6)⟩, ⟨true, .flat 0 (.ints .u8 gv15)⟩, ⟨true, .flat 0 (.ints .u8 rv12)⟩, ⟨true, .flat 8 (.ints .u8 gv17)⟩]⟩
def spec_l01Meet_susu_v2.sx2_0 (p0 : Int) (one1 : Nat) (gv3 : Nat) (gv4 : Nat → Int) (gv5 : Nat) (gv6 : Nat → Int) (rv11 : Nat) (rv12 : Nat → Int) (outv13 : Nat) (i14 : Int) (gv15 : Nat → Int) (ov19 : Nat → Int) : St := ⟨sl 68 [(0, .int .i64 (p0)), (1, .slice false 0 0 one1 .unk 8), (7, .slice false 2 0 outv13 .unk 8), (10, .slice false 3 0 rv11 .unk 8), (11, .int .i64 (i14)), (12, .sptr [(4, 8)])], [⟨false, .flat gv3 (.ints .u8 gv4)⟩, ⟨false, .flat gv5 (.ints .u8 gv6)⟩, ⟨true, .flat 0 (.ints .u8 gv15)⟩, ⟨true, .flat 0 (.ints .u8 rv12)⟩, ⟨true, .flat 8 (.ints .u8 ov19)⟩]⟩
theorem spec_l01Meet_susu_v2.b2_gen {ρ : Type} (N : Nat) (K : AV → Heap → Option ρ) (L2 : St → Option ρ) (kv : XE → St → Option ρ) (p0 : Int) (one1 : Nat) (gv3 : Nat) (gv4 : Nat → Int) (gv5 : Nat) (gv6 : Nat → Int) (rv11 : Nat) (rv12 : Nat → Int) (outv13 : Nat) (i14 : Int) (gv15 : Nat → Int) (k16 : Int) (gv17 : Nat → Int) :
    xcode (E27 N) ents spec_l01Meet_susu_v2.kp 2 N (cL (cK (cB (cA (cB (cK (cA (cB (cL (cK (cB (cA (cB (cB (cB (cB (cB spec_l01Meet_susu_v2.bd))))))))))))))))) 4 (spec_l01Meet_susu_v2.st2 p0 one1 gv3 gv4 gv5 gv6 rv11 rv12 outv13 i14 gv15 k16 gv17) (roundK spec_l01Meet_susu_v2.kp 2 4 L2 (mixK (spec_l01Meet_susu_v2.fin N K gv3 gv4 gv5 gv6 .ret) kv)) = (spec_l01Meet_susu_v2.b2 N (fun d0 d1 => K (.slice false 2 0 d0 .unk 8) [⟨false, .flat gv3 (.ints .u8 gv4)⟩, ⟨false, .flat gv5 (.ints .u8 gv6)⟩, ⟨true, .flat 0 (.ints .u8 d1)⟩]) (fun k16 gv17 => L2 (spec_l01Meet_susu_v2.st2 p0 one1 gv3 gv4 gv5 gv6 rv11 rv12 outv13 i14 gv15 k16 gv17)) (fun ov19 => kv (.exit 4) (spec_l01Meet_susu_v2.sx2_0 p0 one1 gv3 gv4 gv5 gv6 rv11 rv12 outv13 i14 gv15 ov19)) p0 one1 gv4 rv11 rv12 i14 k16 gv17) := by kernel_rfl
theorem spec_l01Meet_susu_v2.b2_eq {ρ : Type} (N : Nat) (K : AV → Heap → Option ρ) (L1 : St → Option ρ) (L2 : St → Option ρ) (p0 : Int) (one1 : Nat) (gv3 : Nat) (gv4 : Nat → Int) (gv5 : Nat) (gv6 : Nat → Int) (rv11 : Nat) (rv12 : Nat → Int) (outv13 : Nat) (i14 : Int) (gv15 : Nat → Int) (k16 : Int) (gv17 : Nat → Int) :
    xcode (E27 N) ents spec_l01Meet_susu_v2.kp 2 N (cL (cK (cB (cA (cB (cK (cA (cB (cL (cK (cB (cA (cB (cB (cB (cB (cB spec_l01Meet_susu_v2.bd))))))))))))))))) 4 (spec_l01Meet_susu_v2.st2 p0 one1 gv3 gv4 gv5 gv6 rv11 rv12 outv13 i14 gv15 k16 gv17) (roundK spec_l01Meet_susu_v2.kp 2 4 L2 (spec_l01Meet_susu_v2.k2g N L1 (spec_l01Meet_susu_v2.k1 N K gv3 gv4 gv5 gv6))) = (spec_l01Meet_susu_v2.b2 N (fun d0 d1 => K (.slice false 2 0 d0 .unk 8) [⟨false, .flat gv3 (.ints .u8 gv4)⟩, ⟨false, .flat gv5 (.ints .u8 gv6)⟩, ⟨true, .flat 0 (.ints .u8 d1)⟩]) (fun k16 gv17 => L2 (spec_l01Meet_susu_v2.st2 p0 one1 gv3 gv4 gv5 gv6 rv11 rv12 outv13 i14 gv15 k16 gv17)) (fun ov19 => (spec_l01Meet_susu_v2.k2g N L1 (spec_l01Meet_susu_v2.k1 N K gv3 gv4 gv5 gv6)) (.exit 4) (spec_l01Meet_susu_v2.sx2_0 p0 one1 gv3 gv4 gv5 gv6 rv11 rv12 outv13 i14 gv15 ov19)) p0 one1 gv4 rv11 rv12 i14 k16 gv17) := by
  have h := spec_l01Meet_susu_v2.b2_gen N K L2 (spec_l01Meet_susu_v2.k2g N L1 (spec_l01Meet_susu_v2.k1 N K gv3 gv4 gv5 gv6)) p0 one1 gv3 gv4 gv5 gv6 rv11 rv12 outv13 i14 gv15 k16 gv17
  rw [spec_l01Meet_susu_v2.k2_mix] at h
  exact h
theorem spec_l01Meet_susu_v2.a2_0_gen {ρ : Type} (N : Nat) (K : AV → Heap → Option ρ) (L1 : St → Option ρ) (kv : XE → St → Option ρ) (p0 : Int) (one1 : Nat) (gv3 : Nat) (gv4 : Nat → Int) (gv5 : Nat) (gv6 : Nat → Int) (rv11 : Nat) (rv12 : Nat → Int) (outv13 : Nat) (i14 : Int) (gv15 : Nat → Int) (ov19 : Nat → Int) :
    (spec_l01Meet_susu_v2.k2g N L1 (mixK (spec_l01Meet_susu_v2.fin N K gv3 gv4 gv5 gv6 .ret) kv)) (.exit 4) (spec_l01Meet_susu_v2.sx2_0 p0 one1 gv3 gv4 gv5 gv6 rv11 rv12 outv13 i14 gv15 ov19) = (spec_l01Meet_susu_v2.a2_0 N (fun d0 d1 => K (.slice false 2 0 d0 .unk 8) [⟨false, .flat gv3 (.ints .u8 gv4)⟩, ⟨false, .flat gv5 (.ints .u8 gv6)⟩, ⟨true, .flat 0 (.ints .u8 d1)⟩]) (fun outv13 i14 gv15 => L1 (spec_l01Meet_susu_v2.st1 p0 one1 gv3 gv4 gv5 gv6 rv11 rv12 outv13 i14 gv15)) (fun ov23 ov24 => kv (.exit 2) (spec_l01Meet_susu_v2.sx1_0 gv3 gv4 gv5 gv6 ov23 ov24)) p0 outv13 i14 gv15 ov19) := by kernel_rfl
theorem spec_l01Meet_susu_v2.a2_0_eq {ρ : Type} (N : Nat) (K : AV → Heap → Option ρ) (L1 : St → Option ρ) (p0 : Int) (one1 : Nat) (gv3 : Nat) (gv4 : Nat → Int) (gv5 : Nat) (gv6 : Nat → Int) (rv11 : Nat) (rv12 : Nat → Int) (outv13 : Nat) (i14 : Int) (gv15 : Nat → Int) (ov19 : Nat → Int) :
    (spec_l01Meet_susu_v2.k2g N L1 (spec_l01Meet_susu_v2.k1 N K gv3 gv4 gv5 gv6)) (.exit 4) (spec_l01Meet_susu_v2.sx2_0 p0 one1 gv3 gv4 gv5 gv6 rv11 rv12 outv13 i14 gv15 ov19) = (spec_l01Meet_susu_v2.a2_0 N (fun d0 d1 => K (.slice false 2 0 d0 .unk 8) [⟨false, .flat gv3 (.ints .u8 gv4)⟩, ⟨false, .flat gv5 (.ints .u8 gv6)⟩, ⟨true, .flat 0 (.ints .u8 d1)⟩]) (fun outv13 i14 gv15 => L1 (spec_l01Meet_susu_v2.st1 p0 one1 gv3 gv4 gv5 gv6 rv11 rv12 outv13 i14 gv15)) (fun ov23 ov24 => (spec_l01Meet_susu_v2.k1 N K gv3 gv4 gv5 gv6) (.exit 2) (spec_l01Meet_susu_v2.sx1_0 gv3 gv4 gv5 gv6 ov23 ov24)) p0 outv13 i14 gv15 ov19) := by
  have h := spec_l01Meet_susu_v2.a2_0_gen N K L1 (spec_l01Meet_susu_v2.k1 N K gv3 gv4 gv5 gv6) p0 one1 gv3 gv4 gv5 gv6 rv11 rv12 outv13 i14 gv15 ov19
  rw [spec_l01Meet_susu_v2.k1_mix] at h
  exact h
theorem spec_l01Meet_susu_v2.b1_gen {ρ : Type} (N : Nat) (K : AV → Heap → Option ρ) (L1 : St → Option ρ) (kv : XE → St → Option ρ) (p0 : Int) (one1 : Nat) (gv3 : Nat) (gv4 : Nat → Int) (gv5 : Nat) (gv6 : Nat → Int) (rv11 : Nat) (rv12 : Nat → Int) (outv13 : Nat) (i14 : Int) (gv15 : Nat → Int) :
    xcode (E27 N) ents spec_l01Meet_susu_v2.kp 2 N (cL (cK (cB (cA (cB (cB (cB (cB (cB spec_l01Meet_susu_v2.bd))))))))) 2 (spec_l01Meet_susu_v2.st1 p0 one1 gv3 gv4 gv5 gv6 rv11 rv12 outv13 i14 gv15) (roundK spec_l01Meet_susu_v2.kp 2 2 L1 (mixK (spec_l01Meet_susu_v2.fin N K gv3 gv4 gv5 gv6 .ret) kv)) = (spec_l01Meet_susu_v2.b1 N (fun d0 d1 => K (.slice false 2 0 d0 .unk 8) [⟨false, .flat gv3 (.ints .u8 gv4)⟩, ⟨false, .flat gv5 (.ints .u8 gv6)⟩, ⟨true, .flat 0 (.ints .u8 d1)⟩]) (fun k16 gv17 => xloop (xcode (E27 N) ents spec_l01Meet_susu_v2.kp 2 N (cL (cK (cB (cA (cB (cK (cA (cB (cL (cK (cB (cA (cB (cB (cB (cB (cB spec_l01Meet_susu_v2.bd))))))))))))))))) 4) spec_l01Meet_susu_v2.kp 2 4 N (spec_l01Meet_susu_v2.st2 p0 one1 gv3 gv4 gv5 gv6 rv11 rv12 outv13 i14 gv15 k16 gv17) (spec_l01Meet_susu_v2.k2g N L1 (mixK (spec_l01Meet_susu_v2.fin N K gv3 gv4 gv5 gv6 .ret) kv))) (fun outv13 i14 gv15 => L1 (spec_l01Meet_susu_v2.st1 p0 one1 gv3 gv4 gv5 gv6 rv11 rv12 outv13 i14 gv15)) (fun ov23 ov24 => kv (.exit 2) (spec_l01Meet_susu_v2.sx1_0 gv3 gv4 gv5 gv6 ov23 ov24)) rv11 outv13 i14 gv15) := by kernel_rfl
theorem spec_l01Meet_susu_v2.b1_eq {ρ : Type} (N : Nat) (K : AV → Heap → Option ρ) (L1 : St → Option ρ) (p0 : Int) (one1 : Nat) (gv3 : Nat) (gv4 : Nat → Int) (gv5 : Nat) (gv6 : Nat → Int) (rv11 : Nat) (rv12 : Nat → Int) (outv13 : Nat) (i14 : Int) (gv15 : Nat → Int) :
    xcode (E27 N) ents spec_l01Meet_susu_v2.kp 2 N (cL (cK (cB (cA (cB (cB (cB (cB (cB spec_l01Meet_susu_v2.bd))))))))) 2 (spec_l01Meet_susu_v2.st1 p0 one1 gv3 gv4 gv5 gv6 rv11 rv12 outv13 i14 gv15) (roundK spec_l01Meet_susu_v2.kp 2 2 L1 (spec_l01Meet_susu_v2.k1 N K gv3 gv4 gv5 gv6)) = (spec_l01Meet_susu_v2.b1 N (fun d0 d1 => K (.slice false 2 0 d0 .unk 8) [⟨false, .flat gv3 (.ints .u8 gv4)⟩, ⟨false, .flat gv5 (.ints .u8 gv6)⟩, ⟨true, .flat 0 (.ints .u8 d1)⟩]) (fun k16 gv17 => xloop (xcode (E27 N) ents spec_l01Meet_susu_v2.kp 2 N (cL (cK (cB (cA (cB (cK (cA (cB (cL (cK (cB (cA (cB (cB (cB (cB (cB spec_l01Meet_susu_v2.bd))))))))))))))))) 4) spec_l01Meet_susu_v2.kp 2 4 N (spec_l01Meet_susu_v2.st2 p0 one1 gv3 gv4 gv5 gv6 rv11 rv12 outv13 i14 gv15 k16 gv17) (spec_l01Meet_susu_v2.k2g N L1 (spec_l01Meet_susu_v2.k1 N K gv3 gv4 gv5 gv6))) (fun outv13 i14 gv15 => L1 (spec_l01Meet_susu_v2.st1 p0 one1 gv3 gv4 gv5 gv6 rv11 rv12 outv13 i14 gv15)) (fun ov23 ov24 => (spec_l01Meet_susu_v2.k1 N K gv3 gv4 gv5 gv6) (.exit 2) (spec_l01Meet_susu_v2.sx1_0 gv3 gv4 gv5 gv6 ov23 ov24)) rv11 outv13 i14 gv15) := by
  have h := spec_l01Meet_susu_v2.b1_gen N K L1 (spec_l01Meet_susu_v2.k1 N K gv3 gv4 gv5 gv6) p0 one1 gv3 gv4 gv5 gv6 rv11 rv12 outv13 i14 gv15
  rw [spec_l01Meet_susu_v2.k1_mix] at h
  exact h
theorem spec_l01Meet_susu_v2.a1_0_eq {ρ : Type} (N : Nat) (K : AV → Heap → Option ρ) (gv3 : Nat) (gv4 : Nat → Int) (gv5 : Nat) (gv6 : Nat → Int) (ov23 : Nat) (ov24 : Nat → Int) :
    (spec_l01Meet_susu_v2.k1 N K gv3 gv4 gv5 gv6) (.exit 2) (spec_l01Meet_susu_v2.sx1_0 gv3 gv4 gv5 gv6 ov23 ov24) = (spec_l01Meet_susu_v2.a1_0 N (fun d0 d1 => K (.slice false 2 0 d0 .unk 8) [⟨false, .flat gv3 (.ints .u8 gv4)⟩, ⟨false, .flat gv5 (.ints .u8 gv6)⟩, ⟨true, .flat 0 (.ints .u8 d1)⟩]) ov23 ov24) := by kernel_rfl
theorem spec_l01Meet_susu_v2.b0_gen {ρ : Type} (N : Nat) (K : AV → Heap → Option ρ) (L0 : St → Option ρ) (kv : XE → St → Option ρ) (p0 : Int) (one1 : Nat) (two2 : Nat) (gv3 : Nat) (gv4 : Nat → Int) (gv5 : Nat) (gv6 : Nat → Int) (i7 : Int) (gv8 : Nat → Int) :
    xcode (E27 N) ents spec_l01Meet_susu_v2.kp 2 N (cL (cK (cB (cA (cB (cB (cB spec_l01Meet_susu_v2.bd))))))) 0 (spec_l01Meet_susu_v2.st0 p0 one1 two2 gv3 gv4 gv5 gv6 i7 gv8) (roundK spec_l01Meet_susu_v2.kp 2 0 L0 (mixK (spec_l01Meet_susu_v2.fin N K gv3 gv4 gv5 gv6 .ret) kv)) = (spec_l01Meet_susu_v2.b0 N (fun d0 d1 => K (.slice false 2 0 d0 .unk 8) [⟨false, .flat gv3 (.ints .u8 gv4)⟩, ⟨false, .flat gv5 (.ints .u8 gv6)⟩, ⟨true, .flat 0 (.ints .u8 d1)⟩]) (fun i7 gv8 => L0 (spec_l01Meet_susu_v2.st0 p0 one1 two2 gv3 gv4 gv5 gv6 i7 gv8)) (fun ov10 => kv (.exit 0) (spec_l01Meet_susu_v2.sx0_0 p0 one1 gv3 gv4 gv5 gv6 ov10)) p0 one1 two2 gv4 gv6 i7 gv8) := by kernel_rfl
theorem spec_l01Meet_susu_v2.b0_eq {ρ : Type} (N : Nat) (K : AV → Heap → Option ρ) (L0 : St → Option ρ) (p0 : Int) (one1 : Nat) (two2 : Nat) (gv3 : Nat) (gv4 : Nat → Int) (gv5 : Nat) (gv6 : Nat → Int) (i7 : Int) (gv8 : Nat → Int) :
    xcode (E27 N) ents spec_l01Meet_susu_v2.kp 2 N (cL (cK (cB (cA (cB (cB (cB spec_l01Meet_susu_v2.bd))))))) 0 (spec_l01Meet_susu_v2.st0 p0 one1 two2 gv3 gv4 gv5 gv6 i7 gv8) (roundK spec_l01Meet_susu_v2.kp 2 0 L0 (spec_l01Meet_susu_v2.k0 N K gv3 gv4 gv5 gv6)) = (spec_l01Meet_susu_v2.b0 N (fun d0 d1 => K (.slice false 2 0 d0 .unk 8) [⟨false, .flat gv3 (.ints .u8 gv4)⟩, ⟨false, .flat gv5 (.ints .u8 gv6)⟩, ⟨true, .flat 0 (.ints .u8 d1)⟩]) (fun i7 gv8 => L0 (spec_l01Meet_susu_v2.st0 p0 one1 two2 gv3 gv4 gv5 gv6 i7 gv8)) (fun ov10 => (spec_l01Meet_susu_v2.k0 N K gv3 gv4 gv5 gv6) (.exit 0) (spec_l01Meet_susu_v2.sx0_0 p0 one1 gv3 gv4 gv5 gv6 ov10)) p0 one1 two2 gv4 gv6 i7 gv8) := by
  have h := spec_l01Meet_susu_v2.b0_gen N K L0 (spec_l01Meet_susu_v2.k0 N K gv3 gv4 gv5 gv6) p0 one1 two2 gv3 gv4 gv5 gv6 i7 gv8
  rw [spec_l01Meet_susu_v2.k0_mix] at h
  exact h
theorem spec_l01Meet_susu_v2.a0_0_eq {ρ : Type} (N : Nat) (K : AV → Heap → Option ρ) (p0 : Int) (one1 : Nat) (gv3 : Nat) (gv4 : Nat → Int) (gv5 : Nat) (gv6 : Nat → Int) (ov10 : Nat → Int) :
    (spec_l01Meet_susu_v2.k0 N K gv3 gv4 gv5 gv6) (.exit 0) (spec_l01Meet_susu_v2.sx0_0 p0 one1 gv3 gv4 gv5 gv6 ov10) = (spec_l01Meet_susu_v2.a0_0 N (fun d0 d1 => K (.slice false 2 0 d0 .unk 8) [⟨false, .flat gv3 (.ints .u8 gv4)⟩, ⟨false, .flat gv5 (.ints .u8 gv6)⟩, ⟨true, .flat 0 (.ints .u8 d1)⟩]) (fun rv11 rv12 outv13 i14 gv15 => xloop (xcode (E27 N) ents spec_l01Meet_susu_v2.kp 2 N (cL (cK (cB (cA (cB (cB (cB (cB (cB spec_l01Meet_susu_v2.bd))))))))) 2) spec_l01Meet_susu_v2.kp 2 2 N (spec_l01Meet_susu_v2.st1 p0 one1 gv3 gv4 gv5 gv6 rv11 rv12 outv13 i14 gv15) (spec_l01Meet_susu_v2.k1 N K gv3 gv4 gv5 gv6)) p0 one1 ov10) := by kernel_rfl
theorem spec_l01Meet_susu_v2.l2_eq {ρ : Type} (N : Nat) (K : AV → Heap → Option ρ) (L1 : St → Option ρ) (p0 : Int) (one1 : Nat) (gv3 : Nat) (gv4 : Nat → Int) (gv5 : Nat) (gv6 : Nat → Int) (rv11 : Nat) (rv12 : Nat → Int) (outv13 : Nat) (i14 : Int) (gv15 : Nat → Int) :
    ∀ (m : Nat) (k16 : Int) (gv17 : Nat → Int), xloop (xcode (E27 N) ents spec_l01Meet_susu_v2.kp 2 N (cL (cK (cB (cA (cB (cK (cA (cB (cL (cK (cB (cA (cB (cB (cB (cB (cB spec_l01Meet_susu_v2.bd))))))))))))))))) 4) spec_l01Meet_susu_v2.kp 2 4 m (spec_l01Meet_susu_v2.st2 p0 one1 gv3 gv4 gv5 gv6 rv11 rv12 outv13 i14 gv15 k16 gv17) (spec_l01Meet_susu_v2.k2g N L1 (spec_l01Meet_susu_v2.k1 N K gv3 gv4 gv5 gv6)) = (spec_l01Meet_susu_v2.l2 N (fun d0 d1 => K (.slice false 2 0 d0 .unk 8) [⟨false, .flat gv3 (.ints .u8 gv4)⟩, ⟨false, .flat gv5 (.ints .u8 gv6)⟩, ⟨true, .flat 0 (.ints .u8 d1)⟩]) p0 one1 gv4 rv11 rv12 i14 (fun ov19 => (spec_l01Meet_susu_v2.k2g N L1 (spec_l01Meet_susu_v2.k1 N K gv3 gv4 gv5 gv6)) (.exit 4) (spec_l01Meet_susu_v2.sx2_0 p0 one1 gv3 gv4 gv5 gv6 rv11 rv12 outv13 i14 gv15 ov19)) m k16 gv17) := by
  intro m
  induction m with
  | zero => intros; rfl
  | succ m ih =>
    intro k16 gv17
    refine (spec_l01Meet_susu_v2.b2_eq N K L1 (fun s => xloop (xcode (E27 N) ents spec_l01Meet_susu_v2.kp 2 N (cL (cK (cB (cA (cB (cK (cA (cB (cL (cK (cB (cA (cB (cB (cB (cB (cB spec_l01Meet_susu_v2.bd))))))))))))))))) 4) spec_l01Meet_susu_v2.kp 2 4 m s (spec_l01Meet_susu_v2.k2g N L1 (spec_l01Meet_susu_v2.k1 N K gv3 gv4 gv5 gv6))) p0 one1 gv3 gv4 gv5 gv6 rv11 rv12 outv13 i14 gv15 k16 gv17).trans ?_
    simp only [ih]
    kernel_rfl
theorem spec_l01Meet_susu_v2.l1_eq {ρ : Type} (N : Nat) (K : AV → Heap → Option ρ) (p0 : Int) (one1 : Nat) (gv3 : Nat) (gv4 : Nat → Int) (gv5 : Nat) (gv6 : Nat → Int) (rv11 : Nat) (rv12 : Nat → Int) :
    ∀ (m : Nat) (outv13 : Nat) (i14 : Int) (gv15 : Nat → Int), xloop (xcode (E27 N) ents spec_l01Meet_susu_v2.kp 2 N (cL (cK (cB (cA (cB (cB (cB (cB (cB spec_l01Meet_susu_v2.bd))))))))) 2) spec_l01Meet_susu_v2.kp 2 2 m (spec_l01Meet_susu_v2.st1 p0 one1 gv3 gv4 gv5 gv6 rv11 rv12 outv13 i14 gv15) (spec_l01Meet_susu_v2.k1 N K gv3 gv4 gv5 gv6) = (spec_l01Meet_susu_v2.l1 N (fun d0 d1 => K (.slice false 2 0 d0 .unk 8) [⟨false, .flat gv3 (.ints .u8 gv4)⟩, ⟨false, .flat gv5 (.ints .u8 gv6)⟩, ⟨true, .flat 0 (.ints .u8 d1)⟩]) p0 one1 gv4 rv11 rv12 (fun ov23 ov24 => (spec_l01Meet_susu_v2.k1 N K gv3 gv4 gv5 gv6) (.exit 2) (spec_l01Meet_susu_v2.sx1_0 gv3 gv4 gv5 gv6 ov23 ov24)) m outv13 i14 gv15) := by
  intro m
  induction m with
  | zero => intros; rfl
  | succ m ih =>
    intro outv13 i14 gv15
    refine (spec_l01Meet_susu_v2.b1_eq N K (fun s => xloop (xcode (E27 N) ents spec_l01Meet_susu_v2.kp 2 N (cL (cK (cB (cA (cB (cB (cB (cB (cB spec_l01Meet_susu_v2.bd))))))))) 2) spec_l01Meet_susu_v2.kp 2 2 m s (spec_l01Meet_susu_v2.k1 N K gv3 gv4 gv5 gv6)) p0 one1 gv3 gv4 gv5 gv6 rv11 rv12 outv13 i14 gv15).trans ?_
    simp only [ih, spec_l01Meet_susu_v2.l2_eq, spec_l01Meet_susu_v2.a2_0_eq]
    kernel_rfl
theorem spec_l01Meet_susu_v2.l0_eq {ρ : Type} (N : Nat) (K : AV → Heap → Option ρ) (p0 : Int) (one1 : Nat) (two2 : Nat) (gv3 : Nat) (gv4 : Nat → Int) (gv5 : Nat) (gv6 : Nat → Int) :
    ∀ (m : Nat) (i7 : Int) (gv8 : Nat → Int), xloop (xcode (E27 N) ents spec_l01Meet_susu_v2.kp 2 N (cL (cK (cB (cA (cB (cB (cB spec_l01Meet_susu_v2.bd))))))) 0) spec_l01Meet_susu_v2.kp 2 0 m (spec_l01Meet_susu_v2.st0 p0 one1 two2 gv3 gv4 gv5 gv6 i7 gv8) (spec_l01Meet_susu_v2.k0 N K gv3 gv4 gv5 gv6) = (spec_l01Meet_susu_v2.l0 N (fun d0 d1 => K (.slice false 2 0 d0 .unk 8) [⟨false, .flat gv3 (.ints .u8 gv4)⟩, ⟨false, .flat gv5 (.ints .u8 gv6)⟩, ⟨true, .flat 0 (.ints .u8 d1)⟩]) p0 one1 two2 gv4 gv6 (fun ov10 => (spec_l01Meet_susu_v2.k0 N K gv3 gv4 gv5 gv6) (.exit 0) (spec_l01Meet_susu_v2.sx0_0 p0 one1 gv3 gv4 gv5 gv6 ov10)) m i7 gv8) := by
  intro m
  induction m with
  | zero => intros; rfl
  | succ m ih =>
    intro i7 gv8
    refine (spec_l01Meet_susu_v2.b0_eq N K (fun s => xloop (xcode (E27 N) ents spec_l01Meet_susu_v2.kp 2 N (cL (cK (cB (cA (cB (cB (cB spec_l01Meet_susu_v2.bd))))))) 0) spec_l01Meet_susu_v2.kp 2 0 m s (spec_l01Meet_susu_v2.k0 N K gv3 gv4 gv5 gv6)) p0 one1 two2 gv3 gv4 gv5 gv6 i7 gv8).trans ?_
    simp only [ih]
    kernel_rfl
theorem spec_l01Meet_susu_v2.s_eq {ρ : Type} (N : Nat) (K : AV → Heap → Option ρ) (p0 : Int) (one1 : Nat) (two2 : Nat) (gv3 : Nat) (gv4 : Nat → Int) (gv5 : Nat) (gv6 : Nat → Int) :
    xbody (E27 N) ents spec_l01Meet_susu_v2.kp N Try.f78 spec_l01Meet_susu_v2.bd [.int .i64 (p0), .slice false 0 0 one1 .unk 8, .slice false 1 0 two2 .unk 8] [⟨false, .flat gv3 (.ints .u8 gv4)⟩, ⟨false, .flat gv5 (.ints .u8 gv6)⟩] K = (spec_l01Meet_susu_v2.s N (fun d0 d1 => K (.slice false 2 0 d0 .unk 8) [⟨false, .flat gv3 (.ints .u8 gv4)⟩, ⟨false, .flat gv5 (.ints .u8 gv6)⟩, ⟨true, .flat 0 (.ints .u8 d1)⟩]) (fun i7 gv8 => xloop (xcode (E27 N) ents spec_l01Meet_susu_v2.kp 2 N (cL (cK (cB (cA (cB (cB (cB spec_l01Meet_susu_v2.bd))))))) 0) spec_l01Meet_susu_v2.kp 2 0 N (spec_l01Meet_susu_v2.st0 p0 one1 two2 gv3 gv4 gv5 gv6 i7 gv8) (spec_l01Meet_susu_v2.k0 N K gv3 gv4 gv5 gv6))) := by kernel_rfl
theorem spec_l01Meet_susu_v2.eq {ρ : Type} (N : Nat) (K : AV → Heap → Option ρ) (p0 : Int) (one1 : Nat) (two2 : Nat) (gv3 : Nat) (gv4 : Nat → Int) (gv5 : Nat) (gv6 : Nat → Int) :
    xbody (E27 N) ents spec_l01Meet_susu_v2.kp N Try.f78 spec_l01Meet_susu_v2.bd [.int .i64 (p0), .slice false 0 0 one1 .unk 8, .slice false 1 0 two2 .unk 8] [⟨false, .flat gv3 (.ints .u8 gv4)⟩, ⟨false, .flat gv5 (.ints .u8 gv6)⟩] K = (spec_l01Meet_susu_v2 N (fun d0 d1 => K (.slice false 2 0 d0 .unk 8) [⟨false, .flat gv3 (.ints .u8 gv4)⟩, ⟨false, .flat gv5 (.ints .u8 gv6)⟩, ⟨true, .flat 0 (.ints .u8 d1)⟩]) p0 one1 two2 gv3 gv4 gv5 gv6) := by
  refine (spec_l01Meet_susu_v2.s_eq N K p0 one1 two2 gv3 gv4 gv5 gv6).trans ?_
  simp only [spec_l01Meet_susu_v2.l0_eq, spec_l01Meet_susu_v2.a0_0_eq, spec_l01Meet_susu_v2.l1_eq, spec_l01Meet_susu_v2.a1_0_eq]
  kernel_rfl
def spec_l01Meet_susu_v2.en (N : Nat) (ρ : Type) : List AV → Heap → (AV → Heap → Option ρ) → Option ρ
  | [.int .i64 (p0), .slice false 0 0 one1 .unk 8, .slice false 1 0 two2 .unk 8], [⟨false, .flat gv3 (.ints .u8 gv4)⟩, ⟨false, .flat gv5 (.ints .u8 gv6)⟩], K => (spec_l01Meet_susu_v2 N (fun d0 d1 => K (.slice false 2 0 d0 .unk 8) [⟨false, .flat gv3 (.ints .u8 gv4)⟩, ⟨false, .flat gv5 (.ints .u8 gv6)⟩, ⟨true, .flat 0 (.ints .u8 d1)⟩]) p0 one1 two2 gv3 gv4 gv5 gv6)
  | _, _, _ => none
theorem spec_l01Meet_susu_v2.en_ok (N : Nat) (hE : EnvOk (E27 N) ents) (ρ : Type) (args : List AV) (sh : Heap) (K : AV → Heap → Option ρ) (r : ρ) (h : spec_l01Meet_susu_v2.en N ρ args sh K = some r) : ∃ v sh', K v sh' = some r ∧ FnOk (E27 N).P 78 args sh v sh' := by
  unfold spec_l01Meet_susu_v2.en at h
  split at h
  · exact fn_ok hE (kp := spec_l01Meet_susu_v2.kp) (N := N) Try.func78 (c := spec_l01Meet_susu_v2.bd) (by kernel_rfl) ((spec_l01Meet_susu_v2.eq N _ _ _ _ _ _ _ _).trans h)
  · cases h
def E28 (N : Nat) : Env := (E27 N).add 78 (spec_l01Meet_susu_v2.en N)
theorem E28_ok (N : Nat) : EnvOk (E28 N) ents := Env.add_ok (E27_ok N) (spec_l01Meet_susu_v2.en_ok N (E27_ok N))
def spec_CentreOf.kp : Keeps := ⟨[(0, [1, 4, 5], [(.slot 4, .unk (.ints .u8 (fun _ => 0)) 8)], []), (2, [1, 4, 5, 6, 7], [], [])], [(0, [4], [], []), (2, [1, 4, 5, 6], [], [])], [(.slot 2, .unk (.ints .u8 (fun _ => 0)) 8)]⟩
def spec_CentreOf.bd : Code := bodyOf Try.f43
def spec_CentreOf.fin {ρ : Type} (N : Nat) (K : AV → Heap → Option ρ) : XE → St → Option ρ := finK (E28 N) spec_CentreOf.kp.fins Try.f43 [] K
def spec_CentreOf.k0 {ρ : Type} (N : Nat) (K : AV → Heap → Option ρ) : XE → St → Option ρ := (blockK spec_CentreOf.kp 0 0 (seqK (xcode (E28 N) ents spec_CentreOf.kp 0 N (cB (cB (cB (cB spec_CentreOf.bd)))) 0) (spec_CentreOf.fin N K)))
theorem spec_CentreOf.k0_mix {ρ : Type} (N : Nat) (K : AV → Heap → Option ρ) : mixK (spec_CentreOf.fin N K .ret) (spec_CentreOf.k0 N K) = (spec_CentreOf.k0 N K) := by
  funext e s; cases e <;> kernel_rfl
def spec_CentreOf.st0 (av0 : Nat → Int) (av1 : Nat → Int) (outv5 : Nat) (i6 : Int) (gv7 : Nat → Int) : St := ⟨sl 55 [(1, .sptr [(0, 2), (1, 520)]), (4, .slice false 2 0 outv5 .unk 8), (5, .int .i64 (i6))], [⟨true, .flat 2 (.ints .i64 av0)⟩, ⟨true, .flat 520 (.ints .u8 av1)⟩, ⟨true, .flat 0 (.ints .u8 gv7)⟩]⟩
def spec_CentreOf.sx0_0 (ov16 : Nat) (ov17 : Nat → Int) : St := ⟨sl 55 [(4, .slice false 0 0 ov16 .unk 8)], [⟨true, .flat 0 (.ints .u8 ov17)⟩]⟩
def spec_CentreOf.k1g {ρ : Type} (N : Nat) (L0 : St → Option ρ) (kv : XE → St → Option ρ) : XE → St → Option ρ := (blockK spec_CentreOf.kp 0 2 (seqK (xcode (E28 N) ents spec_CentreOf.kp 0 N (cB (cB (cK (cA (cB (cL (cK (cB (cA (cB (cB (cB spec_CentreOf.bd)))))))))))) 1) (blockK spec_CentreOf.kp 0 1 (seqK (xcode (E28 N) ents spec_CentreOf.kp 0 N (cB (cB (cL (cK (cB (cA (cB (cB (cB spec_CentreOf.bd))))))))) 0) (roundK spec_CentreOf.kp 0 0 L0 kv)))))
theorem spec_CentreOf.k1_mix {ρ : Type} (N : Nat) (K : AV → Heap → Option ρ) (L0 : St → Option ρ) : mixK (spec_CentreOf.fin N K .ret) (spec_CentreOf.k1g N L0 (spec_CentreOf.k0 N K)) = (spec_CentreOf.k1g N L0 (spec_CentreOf.k0 N K)) := by
  funext e s; cases e <;> kernel_rfl
def spec_CentreOf.st1 (av0 : Nat → Int) (av1 : Nat → Int) (outv5 : Nat) (i6 : Int) (gv7 : Nat → Int) (k8 : Int) (gv9 : Nat → Int) : St := ⟨sl 55 [(1, .sptr [(0, 2), (1, 520)]), (4, .slice false 2 0 outv5 .unk 8), (5, .int .i64 (i6)), (6, .sptr [(3, 64)]), (7, .int .i64 (k8))], [⟨true, .flat 2 (.ints .i64 av0)⟩, ⟨true, .flat 520 (.ints .u8 av1)⟩, ⟨true, .flat 0 (.ints .u8 gv7)⟩, ⟨true, .flat 64 (.ints .u8 gv9)⟩]⟩
def spec_CentreOf.sx1_0 (av0 : Nat → Int) (av1 : Nat → Int) (outv5 : Nat) (i6 : Int) (gv7 : Nat → Int) (ov11 : Nat → Int) : St := ⟨sl 55 [(1, .sptr [(0, 2), (1, 520)]), (4, .slice false 2 0 outv5 .unk 8), (5, .int .i64 (i6)), (6, .sptr [(3, 64)])], [⟨true, .flat 2 (.ints .i64 av0)⟩, ⟨true, .flat 520 (.ints .u8 av1)⟩, ⟨true, .flat 0 (.ints .u8 gv7)⟩, ⟨true, .flat 64 (.ints .u8 ov11)⟩]⟩
theorem spec_CentreOf.b1_gen {ρ : Type} (N : Nat) (K : AV → Heap → Option ρ) (L1 : St → Option ρ) (kv : XE → St → Option ρ) (av0 : Nat → Int) (av1 : Nat → Int) (outv5 : Nat) (i6 : Int) (gv7 : Nat → Int) (k8 : Int) (gv9 : Nat → Int) :
    xcode (E28 N) ents spec_CentreOf.kp 0 N (cL (cK (cB (cA (cB (cK (cA (cB (cL (cK (cB (cA (cB (cB (cB spec_CentreOf.bd))))))))))))))) 2 (spec_CentreOf.st1 av0 av1 outv5 i6 gv7 k8 gv9) (roundK spec_CentreOf.kp 0 2 L1 (mixK (spec_CentreOf.fin N K .ret) kv)) = (spec_CentreOf.b1 N (fun d0 d1 d2 => K (.tup [.slice false 0 0 d0 .unk 8, .int .i64 (d1)]) [⟨true, .flat 0 (.ints .u8 d2)⟩]) (fun k8 gv9 => L1 (spec_CentreOf.st1 av0 av1 outv5 i6 gv7 k8 gv9)) (fun ov11 => kv (.exit 2) (spec_CentreOf.sx1_0 av0 av1 outv5 i6 gv7 ov11)) av0 av1 i6 k8 gv9) := by kernel_rfl
theorem spec_CentreOf.b1_eq {ρ : Type} (N : Nat) (K : AV → Heap → Option ρ) (L0 : St → Option ρ) (L1 : St → Option ρ) (av0 : Nat → Int) (av1 : Nat → Int) (outv5 : Nat) (i6 : Int) (gv7 : Nat → Int) (k8 : Int) (gv9 : Nat → Int) :
    xcode (E28 N) ents spec_CentreOf.kp 0 N (cL (cK (cB (cA (cB (cK (cA (cB (cL (cK (cB (cA (cB (cB (cB spec_CentreOf.bd))))))))))))))) 2 (spec_CentreOf.st1 av0 av1 outv5 i6 gv7 k8 gv9) (roundK spec_CentreOf.kp 0 2 L1 (spec_CentreOf.k1g N L0 (spec_CentreOf.k0 N K))) = (spec_CentreOf.b1 N (fun d0 d1 d2 => K (.tup [.slice false 0 0 d0 .unk 8, .int .i64 (d1)]) [⟨true, .flat 0 (.ints .u8 d2)⟩]) (fun k8 gv9 => L1 (spec_CentreOf.st1 av0 av1 outv5 i6 gv7 k8 gv9)) (fun ov11 => (spec_CentreOf.k1g N L0 (spec_CentreOf.k0 N K)) (.exit 2) (spec_CentreOf.sx1_0 av0 av1 outv5 i6 gv7 ov11)) av0 av1 i6 k8 gv9) := by
  have h := spec_CentreOf.b1_gen N K L1 (spec_CentreOf.k1g N L0 (spec_CentreOf.k0 N K)) av0 av1 outv5 i6 gv7 k8 gv9
  rw [spec_CentreOf.k1_mix] at h
  exact h
theorem spec_CentreOf.a1_0_gen {ρ : Type} (N : Nat) (K : AV → Heap → Option ρ) (L0 : St → Option ρ) (kv : XE → St → Option ρ) (av0 : Nat → Int) (av1 : Nat → Int) (outv5 : Nat) (i6 : Int) (gv7 : Nat → Int) (ov11 : Nat → Int) :
    (spec_CentreOf.k1g N L0 (mixK (spec_CentreOf.fin N K .ret) kv)) (.exit 2) (spec_CentreOf.sx1_0 av0 av1 outv5 i6 gv7 ov11) = (spec_CentreOf.a1_0 N (fun d0 d1 d2 => K (.tup [.slice false 0 0 d0 .unk 8, .int .i64 (d1)]) [⟨true, .flat 0 (.ints .u8 d2)⟩]) (fun outv5 i6 gv7 => L0 (spec_CentreOf.st0 av0 av1 outv5 i6 gv7)) (fun ov16 ov17 => kv (.exit 0) (spec_CentreOf.sx0_0 ov16 ov17)) av0 outv5 i6 gv7 ov11) := by kernel_rfl
theorem spec_CentreOf.a1_0_eq {ρ : Type} (N : Nat) (K : AV → Heap → Option ρ) (L0 : St → Option ρ) (av0 : Nat → Int) (av1 : Nat → Int) (outv5 : Nat) (i6 : Int) (gv7 : Nat → Int) (ov11 : Nat → Int) :
    (spec_CentreOf.k1g N L0 (spec_CentreOf.k0 N K)) (.exit 2) (spec_CentreOf.sx1_0 av0 av1 outv5 i6 gv7 ov11) = (spec_CentreOf.a1_0 N (fun d0 d1 d2 => K (.tup [.slice false 0 0 d0 .unk 8, .int .i64 (d1)]) [⟨true, .flat 0 (.ints .u8 d2)⟩]) (fun outv5 i6 gv7 => L0 (spec_CentreOf.st0 av0 av1 outv5 i6 gv7)) (fun ov16 ov17 => (spec_CentreOf.k0 N K) (.exit 0) (spec_CentreOf.sx0_0 ov16 ov17)) av0 outv5 i6 gv7 ov11) := by
  have h := spec_CentreOf.a1_0_gen N K L0 (spec_CentreOf.k0 N K) av0 av1 outv5 i6 gv7 ov11
  rw [spec_CentreOf.k0_mix] at h
  exact h
theorem spec_CentreOf.b0_gen {ρ : Type} (N : Nat) (K : AV → Heap → Option ρ) (L0 : St → Option ρ) (kv : XE → St → Option ρ) (av0 : Nat → Int) (av1 : Nat → Int) (outv5 : Nat) (i6 : Int) (gv7 : Nat → Int) :
    xcode (E28 N) ents spec_CentreOf.kp 0 N (cL (cK (cB (cA (cB (cB (cB spec_CentreOf.bd))))))) 0 (spec_CentreOf.st0 av0 av1 outv5 i6 gv7) (roundK spec_CentreOf.kp 0 0 L0 (mixK (spec_CentreOf.fin N K .ret) kv)) = (spec_CentreOf.b0 N (fun d0 d1 d2 => K (.tup [.slice false 0 0 d0 .unk 8, .int .i64 (d1)]) [⟨true, .flat 0 (.ints .u8 d2)⟩]) (fun k8 gv9 => xloop (xcode (E28 N) ents spec_CentreOf.kp 0 N (cL (cK (cB (cA (cB (cK (cA (cB (cL (cK (cB (cA (cB (cB (cB spec_CentreOf.bd))))))))))))))) 2) spec_CentreOf.kp 0 2 N (spec_CentreOf.st1 av0 av1 outv5 i6 gv7 k8 gv9) (spec_CentreOf.k1g N L0 (mixK (spec_CentreOf.fin N K .ret) kv))) (fun outv5 i6 gv7 => L0 (spec_CentreOf.st0 av0 av1 outv5 i6 gv7)) (fun ov16 ov17 => kv (.exit 0) (spec_CentreOf.sx0_0 ov16 ov17)) av0 outv5 i6 gv7) := by kernel_rfl
theorem spec_CentreOf.b0_eq {ρ : Type} (N : Nat) (K : AV → Heap → Option ρ) (L0 : St → Option ρ) (av0 : Nat → Int) (av1 : Nat → Int) (outv5 : Nat) (i6 : Int) (gv7 : Nat → Int) :
    xcode (E28 N) ents spec_CentreOf.kp 0 N (cL (cK (cB (cA (cB (cB (cB spec_CentreOf.bd))))))) 0 (spec_CentreOf.st0 av0 av1 outv5 i6 gv7) (roundK spec_CentreOf.kp 0 0 L0 (spec_CentreOf.k0 N K)) = (spec_CentreOf.b0 N (fun d0 d1 d2 => K (.tup [.slice false 0 0 d0 .unk 8, .int .i64 (d1)]) [⟨true, .flat 0 (.ints .u8 d2)⟩]) (fun k8 gv9 => xloop (xcode (E28 N) ents spec_CentreOf.kp 0 N (cL (cK (cB (cA (cB (cK (cA (cB (cL (cK (cB (cA (cB (cB (cB spec_CentreOf.bd))))))))))))))) 2) spec_CentreOf.kp 0 2 N (spec_CentreOf.st1 av0 av1 outv5 i6 gv7 k8 gv9) (spec_CentreOf.k1g N L0 (spec_CentreOf.k0 N K))) (fun outv5 i6 gv7 => L0 (spec_CentreOf.st0 av0 av1 outv5 i6 gv7)) (fun ov16 ov17 => (spec_CentreOf.k0 N K) (.exit 0) (spec_CentreOf.sx0_0 ov16 ov17)) av0 outv5 i6 gv7) := by
  have h := spec_CentreOf.b0_gen N K L0 (spec_CentreOf.k0 N K) av0 av1 outv5 i6 gv7
  rw [spec_CentreOf.k0_mix] at h
  exact h
theorem spec_CentreOf.a0_0_eq {ρ : Type} (N : Nat) (K : AV → Heap → Option ρ) (ov16 : Nat) (ov17 : Nat → Int) :
    (spec_CentreOf.k0 N K) (.exit 0) (spec_CentreOf.sx0_0 ov16 ov17) = (spec_CentreOf.a0_0 N (fun d0 d1 d2 => K (.tup [.slice false 0 0 d0 .unk 8, .int .i64 (d1)]) [⟨true, .flat 0 (.ints .u8 d2)⟩]) ov16 ov17) := by kernel_rfl
theorem spec_CentreOf.l1_eq {ρ : Type} (N : Nat) (K : AV → Heap → Option ρ) (L0 : St → Option ρ) (av0 : Nat → Int) (av1 : Nat → Int) (outv5 : Nat) (i6 : Int) (gv7 : Nat → Int) :
    ∀ (m : Nat) (k8 : Int) (gv9 : Nat → Int), xloop (xcode (E28 N) ents spec_CentreOf.kp 0 N (cL (cK (cB (cA (cB (cK (cA (cB (cL (cK (cB (cA (cB (cB (cB spec_CentreOf.bd))))))))))))))) 2) spec_CentreOf.kp 0 2 m (spec_CentreOf.st1 av0 av1 outv5 i6 gv7 k8 gv9) (spec_CentreOf.k1g N L0 (spec_CentreOf.k0 N K)) = (spec_CentreOf.l1 N (fun d0 d1 d2 => K (.tup [.slice false 0 0 d0 .unk 8, .int .i64 (d1)]) [⟨true, .flat 0 (.ints .u8 d2)⟩]) av0 av1 i6 (fun ov11 => (spec_CentreOf.k1g N L0 (spec_CentreOf.k0 N K)) (.exit 2) (spec_CentreOf.sx1_0 av0 av1 outv5 i6 gv7 ov11)) m k8 gv9) := by
  intro m
  induction m with
  | zero => intros; rfl
  | succ m ih =>
    intro k8 gv9
    refine (spec_CentreOf.b1_eq N K L0 (fun s => xloop (xcode (E28 N) ents spec_CentreOf.kp 0 N (cL (cK (cB (cA (cB (cK (cA (cB (cL (cK (cB (cA (cB (cB (cB spec_CentreOf.bd))))))))))))))) 2) spec_CentreOf.kp 0 2 m s (spec_CentreOf.k1g N L0 (spec_CentreOf.k0 N K))) av0 av1 outv5 i6 gv7 k8 gv9).trans ?_
    simp only [ih]
    kernel_rfl
theorem spec_CentreOf.l0_eq {ρ : Type} (N : Nat) (K : AV → Heap → Option ρ) (av0 : Nat → Int) (av1 : Nat → Int) :
    ∀ (m : Nat) (outv5 : Nat) (i6 : Int) (gv7 : Nat → Int), xloop (xcode (E28 N) ents spec_CentreOf.kp 0 N (cL (cK (cB (cA (cB (cB (cB spec_CentreOf.bd))))))) 0) spec_CentreOf.kp 0 0 m (spec_CentreOf.st0 av0 av1 outv5 i6 gv7) (spec_CentreOf.k0 N K) = (spec_CentreOf.l0 N (fun d0 d1 d2 => K (.tup [.slice false 0 0 d0 .unk 8, .int .i64 (d1)]) [⟨true, .flat 0 (.ints .u8 d2)⟩]) av0 av1 (fun ov16 ov17 => (spec_CentreOf.k0 N K) (.exit 0) (spec_CentreOf.sx0_0 ov16 ov17)) m outv5 i6 gv7) := by
  intro m
  induction m with
  | zero => intros; rfl
  | succ m ih =>
    intro outv5 i6 gv7
    refine (spec_CentreOf.b0_eq N K (fun s => xloop (xcode (E28 N) ents spec_CentreOf.kp 0 N (cL (cK (cB (cA (cB (cB (cB spec_CentreOf.bd))))))) 0) spec_CentreOf.kp 0 0 m s (spec_CentreOf.k0 N K)) av0 av1 outv5 i6 gv7).trans ?_
    simp only [ih, spec_CentreOf.l1_eq, spec_CentreOf.a1_0_eq]
    kernel_rfl
theorem spec_CentreOf.s_eq {ρ : Type} (N : Nat) (K : AV → Heap → Option ρ) (av0 : Nat → Int) (av1 : Nat → Int) :
    xbody (E28 N) ents spec_CentreOf.kp N Try.f43 spec_CentreOf.bd [.agg [⟨.i64, 2, av0⟩, ⟨.u8, 520, av1⟩]] [] K = (spec_CentreOf.s N (fun d0 d1 d2 => K (.tup [.slice false 0 0 d0 .unk 8, .int .i64 (d1)]) [⟨true, .flat 0 (.ints .u8 d2)⟩]) (fun outv5 i6 gv7 => xloop (xcode (E28 N) ents spec_CentreOf.kp 0 N (cL (cK (cB (cA (cB (cB (cB spec_CentreOf.bd))))))) 0) spec_CentreOf.kp 0 0 N (spec_CentreOf.st0 av0 av1 outv5 i6 gv7) (spec_CentreOf.k0 N K)) av0 av1) := by kernel_rfl
theorem spec_CentreOf.eq {ρ : Type} (N : Nat) (K : AV → Heap → Option ρ) (av0 : Nat → Int) (av1 : Nat → Int) :
    xbody (E28 N) ents spec_CentreOf.kp N Try.f43 spec_CentreOf.bd [.agg [⟨.i64, 2, av0⟩, ⟨.u8, 520, av1⟩]] [] K = (spec_CentreOf N (fun d0 d1 d2 => K (.tup [.slice false 0 0 d0 .unk 8, .int .i64 (d1)]) [⟨true, .flat 0 (.ints .u8 d2)⟩]) av0 av1) := by
  refine (spec_CentreOf.s_eq N K av0 av1).trans ?_
  simp only [spec_CentreOf.l0_eq, spec_CentreOf.a0_0_eq]
  kernel_rfl
def spec_CentreOf.en (N : Nat) (ρ : Type) : List AV → Heap → (AV → Heap → Option ρ) → Option ρ
  | [.agg [⟨.i64, 2, av0⟩, ⟨.u8, 520, av1⟩]], [], K => (spec_CentreOf N (fun d0 d1 d2 => K (.tup [.slice false 0 0 d0 .unk 8, .int .i64 (d1)]) [⟨true, .flat 0 (.ints .u8 d2)⟩]) av0 av1)
  | _, _, _ => none
theorem spec_CentreOf.en_ok (N : Nat) (hE : EnvOk (E28 N) ents) (ρ : Type) (args : List AV) (sh : Heap) (K : AV → Heap → Option ρ) (r : ρ) (h : spec_CentreOf.en N ρ args sh K = some r) : ∃ v sh', K v sh' = some r ∧ FnOk (E28 N).P 43 args sh v sh' := by
  unfold spec_CentreOf.en at h
  split at h
  · exact fn_ok hE (kp := spec_CentreOf.kp) (N := N) Try.func43 (c := spec_CentreOf.bd) (by kernel_rfl) ((spec_CentreOf.eq N _ _ _).trans h)
  · cases h
def E29 (N : Nat) : Env := (E28 N).add 43 (spec_CentreOf.en N)
theorem E29_ok (N : Nat) : EnvOk (E29 N) ents := Env.add_ok (E28_ok N) (spec_CentreOf.en_ok N (E28_ok N))
def impl_IsPrime.kp : Keeps := ⟨[(0, [0, 3], [], [])], [(0, [], [], [])], []⟩
def impl_IsPrime.bd : Code := bodyOf Try.f101
def impl_IsPrime.fin {ρ : Type} (N : Nat) (K : AV → Heap → Option ρ) : XE → St → Option ρ := finK (E29 N) impl_IsPrime.kp.fins Try.f101 [] K
def impl_IsPrime.k0 {ρ : Type} (N : Nat) (K : AV → Heap → Option ρ) : XE → St → Option ρ := (blockK impl_IsPrime.kp 0 0 (seqK (xcode (E29 N) ents impl_IsPrime.kp 0 N (cB (cB (cB impl_IsPrime.bd))) 0) (impl_IsPrime.fin N K)))
theorem impl_IsPrime.k0_mix {ρ : Type} (N : Nat) (K : AV → Heap → Option ρ) : mixK (impl_IsPrime.fin N K .ret) (impl_IsPrime.k0 N K) = (impl_IsPrime.k0 N K) := by
  funext e s; cases e <;> kernel_rfl
def impl_IsPrime.st0 (p0 : Int) (k1 : Int) : St := ⟨sl 21 [(0, .int .i64 (p0)), (3, .int .i64 (k1))], []⟩
def impl_IsPrime.sx0_0 : St := ⟨sl 21 [], []⟩
theorem impl_IsPrime.b0_gen {ρ : Type} (N : Nat) (K : AV → Heap → Option ρ) (L0 : St → Option ρ) (kv : XE → St → Option ρ) (p0 : Int) (k1 : Int) :
    xcode (E29 N) ents impl_IsPrime.kp 0 N (cL (cK (cB (cA (cB (cB impl_IsPrime.bd)))))) 0 (impl_IsPrime.st0 p0 k1) (roundK impl_IsPrime.kp 0 0 L0 (mixK (impl_IsPrime.fin N K .ret) kv)) = (impl_IsPrime.b0 N (fun d0 => K (.bool (d0)) []) (fun k1 => L0 (impl_IsPrime.st0 p0 k1)) (kv (.exit 0) (impl_IsPrime.sx0_0)) p0 k1) := by kernel_rfl
theorem impl_IsPrime.b0_eq {ρ : Type} (N : Nat) (K : AV → Heap → Option ρ) (L0 : St → Option ρ) (p0 : Int) (k1 : Int) :
    xcode (E29 N) ents impl_IsPrime.kp 0 N (cL (cK (cB (cA (cB (cB impl_IsPrime.bd)))))) 0 (impl_IsPrime.st0 p0 k1) (roundK impl_IsPrime.kp 0 0 L0 (impl_IsPrime.k0 N K)) = (impl_IsPrime.b0 N (fun d0 => K (.bool (d0)) []) (fun k1 => L0 (impl_IsPrime.st0 p0 k1)) ((impl_IsPrime.k0 N K) (.exit 0) (impl_IsPrime.sx0_0)) p0 k1) := by
  have h := impl_IsPrime.b0_gen N K L0 (impl_IsPrime.k0 N K) p0 k1
  rw [impl_IsPrime.k0_mix] at h
  exact h
theorem impl_IsPrime.a0_0_eq {ρ : Type} (N : Nat) (K : AV → Heap → Option ρ) :
    (impl_IsPrime.k0 N K) (.exit 0) (impl_IsPrime.sx0_0) = (impl_IsPrime.a0_0 N (fun d0 => K (.bool (d0)) [])) := by kernel_rfl
theorem impl_IsPrime.l0_eq {ρ : Type} (N : Nat) (K : AV → Heap → Option ρ) (p0 : Int) :
    ∀ (m : Nat) (k1 : Int), xloop (xcode (E29 N) ents impl_IsPrime.kp 0 N (cL (cK (cB (cA (cB (cB impl_IsPrime.bd)))))) 0) impl_IsPrime.kp 0 0 m (impl_IsPrime.st0 p0 k1) (impl_IsPrime.k0 N K) = (impl_IsPrime.l0 N (fun d0 => K (.bool (d0)) []) p0 ((impl_IsPrime.k0 N K) (.exit 0) (impl_IsPrime.sx0_0)) m k1) := by
  intro m
  induction m with
  | zero => intros; rfl
  | succ m ih =>
    intro k1
    refine (impl_IsPrime.b0_eq N K (fun s => xloop (xcode (E29 N) ents impl_IsPrime.kp 0 N (cL (cK (cB (cA (cB (cB impl_IsPrime.bd)))))) 0) impl_IsPrime.kp 0 0 m s (impl_IsPrime.k0 N K)) p0 k1).trans ?_
    simp only [ih]
    kernel_rfl
theorem impl_IsPrime.s_eq {ρ : Type} (N : Nat) (K : AV → Heap → Option ρ) (p0 : Int) :
    xbody (E29 N) ents impl_IsPrime.kp N Try.f101 impl_IsPrime.bd [.int .i64 (p0)] [] K = (impl_IsPrime.s N (fun d0 => K (.bool (d0)) []) (fun k1 => xloop (xcode (E29 N) ents impl_IsPrime.kp 0 N (cL (cK (cB (cA (cB (cB impl_IsPrime.bd)))))) 0) impl_IsPrime.kp 0 0 N (impl_IsPrime.st0 p0 k1) (impl_IsPrime.k0 N K)) p0) := by kernel_rfl
theorem impl_IsPrime.eq {ρ : Type} (N : Nat) (K : AV → Heap → Option ρ) (p0 : Int) :
    xbody (E29 N) ents impl_IsPrime.kp N Try.f101 impl_IsPrime.bd [.int .i64 (p0)] [] K = (impl_IsPrime N (fun d0 => K (.bool (d0)) []) p0) := by
  refine (impl_IsPrime.s_eq N K p0).trans ?_
  simp only [impl_IsPrime.l0_eq, impl_IsPrime.a0_0_eq]
  kernel_rfl
def impl_IsPrime.en (N : Nat) (ρ : Type) : List AV → Heap → (AV → Heap → Option ρ) → Option ρ
  | [.int .i64 (p0)], [], K => (impl_IsPrime N (fun d0 => K (.bool (d0)) []) p0)
  | _, _, _ => none
theorem impl_IsPrime.en_ok (N : Nat) (hE : EnvOk (E29 N) ents) (ρ : Type) (args : List AV) (sh : Heap) (K : AV → Heap → Option ρ) (r : ρ) (h : impl_IsPrime.en N ρ args sh K = some r) : ∃ v sh', K v sh' = some r ∧ FnOk (E29 N).P 101 args sh v sh' := by
  unfold impl_IsPrime.en at h
  split at h
  · exact fn_ok hE (kp := impl_IsPrime.kp) (N := N) Try.func101 (c := impl_IsPrime.bd) (by kernel_rfl) ((impl_IsPrime.eq N _ _).trans h)
  · cases h
def E30 (N : Nat) : Env := (E29 N).add 101 (impl_IsPrime.en N)
theorem E30_ok (N : Nat) : EnvOk (E30 N) ents := Env.add_ok (E29_ok N) (impl_IsPrime.en_ok N (E29_ok N))
def impl_in.kp : Keeps := ⟨[], [], []⟩
def impl_in.bd : Code := bodyOf Try.f68
def impl_in.fin {ρ : Type} (N : Nat) (K : AV → Heap → Option ρ) : XE → St → Option ρ := finK (E30 N) impl_in.kp.fins Try.f68 [] K
theorem impl_in.eq {ρ : Type} (N : Nat) (K : AV → Heap → Option ρ) (x0 : Int) (least1 : Int) (most2 : Int) :
    xbody (E30 N) ents impl_in.kp N Try.f68 impl_in.bd [.int .i64 (x0), .int .i64 (least1), .int .i64 (most2)] [] K = (impl_in N (fun d0 => K (.bool (d0)) []) x0 least1 most2) := by kernel_rfl
def impl_in.en (N : Nat) (ρ : Type) : List AV → Heap → (AV → Heap → Option ρ) → Option ρ
  | [.int .i64 (x0), .int .i64 (least1), .int .i64 (most2)], [], K => (impl_in N (fun d0 => K (.bool (d0)) []) x0 least1 most2)
  | _, _, _ => none
theorem impl_in.en_ok (N : Nat) (hE : EnvOk (E30 N) ents) (ρ : Type) (args : List AV) (sh : Heap) (K : AV → Heap → Option ρ) (r : ρ) (h : impl_in.en N ρ args sh K = some r) : ∃ v sh', K v sh' = some r ∧ FnOk (E30 N).P 68 args sh v sh' := by
  unfold impl_in.en at h
  split at h
  · exact fn_ok hE (kp := impl_in.kp) (N := N) Try.func68 (c := impl_in.bd) (by kernel_rfl) ((impl_in.eq N _ _ _ _).trans h)
  · cases h
def E31 (N : Nat) : Env := (E30 N).add 68 (impl_in.en N)
theorem E31_ok (N : Nat) : EnvOk (E31 N) ents := Env.add_ok (E30_ok N) (impl_in.en_ok N (E30_ok N))
def impl_IsVector.kp : Keeps := ⟨[(0, [0, 1, 17, 18], [], [])], [(0, [], [], [])], []⟩
def impl_IsVector.bd : Code := bodyOf Try.f84
def impl_IsVector.fin {ρ : Type} (N : Nat) (K : AV → Heap → Option ρ) : XE → St → Option ρ := finK (E31 N) impl_IsVector.kp.fins Try.f84 [] K
def impl_IsVector.k0 {ρ : Type} (N : Nat) (K : AV → Heap → Option ρ) : XE → St → Option ρ := (blockK impl_IsVector.kp 0 0 (seqK (xcode (E31 N) ents impl_IsVector.kp 0 N (cB (cB (cB impl_IsVector.bd))) 0) (impl_IsVector.fin N K)))
theorem impl_IsVector.k0_mix {ρ : Type} (N : Nat) (K : AV → Heap → Option ρ) : mixK (impl_IsVector.fin N K .ret) (impl_IsVector.k0 N K) = (impl_IsVector.k0 N K) := by
  funext e s; cases e <;> kernel_rfl
def impl_IsVector.st0 (p0 : Int) (nv1 : Int) (v2 : Nat → Int) (x5 : Int) : St := ⟨sl 36 [(0, .int .i64 (p0)), (1, .int .i64 (nv1)), (17, .agg [⟨.u8, 8, v2⟩]), (18, .int .i64 (x5))], []⟩
def impl_IsVector.sx0_0 : St := ⟨sl 36 [], []⟩
theorem impl_IsVector.b0_gen {ρ : Type} (N : Nat) (K : AV → Heap → Option ρ) (L0 : St → Option ρ) (kv : XE → St → Option ρ) (p0 : Int) (nv1 : Int) (v2 : Nat → Int) (x5 : Int) :
    xcode (E31 N) ents impl_IsVector.kp 0 N (cL (cK (cB (cA (cB (cB impl_IsVector.bd)))))) 0 (impl_IsVector.st0 p0 nv1 v2 x5) (roundK impl_IsVector.kp 0 0 L0 (mixK (impl_IsVector.fin N K .ret) kv)) = (impl_IsVector.b0 N (fun d0 => K (.bool (d0)) []) (fun x5 => L0 (impl_IsVector.st0 p0 nv1 v2 x5)) (kv (.exit 0) (impl_IsVector.sx0_0)) p0 nv1 v2 x5) := by kernel_rfl
theorem impl_IsVector.b0_eq {ρ : Type} (N : Nat) (K : AV → Heap → Option ρ) (L0 : St → Option ρ) (p0 : Int) (nv1 : Int) (v2 : Nat → Int) (x5 : Int) :
    xcode (E31 N) ents impl_IsVector.kp 0 N (cL (cK (cB (cA (cB (cB impl_IsVector.bd)))))) 0 (impl_IsVector.st0 p0 nv1 v2 x5) (roundK impl_IsVector.kp 0 0 L0 (impl_IsVector.k0 N K)) = (impl_IsVector.b0 N (fun d0 => K (.bool (d0)) []) (fun x5 => L0 (impl_IsVector.st0 p0 nv1 v2 x5)) ((impl_IsVector.k0 N K) (.exit 0) (impl_IsVector.sx0_0)) p0 nv1 v2 x5) := by
  have h := impl_IsVector.b0_gen N K L0 (impl_IsVector.k0 N K) p0 nv1 v2 x5
  rw [impl_IsVector.k0_mix] at h
  exact h
theorem impl_IsVector.a0_0_eq {ρ : Type} (N : Nat) (K : AV → Heap → Option ρ) :
    (impl_IsVector.k0 N K) (.exit 0) (impl_IsVector.sx0_0) = (impl_IsVector.a0_0 N (fun d0 => K (.bool (d0)) [])) := by kernel_rfl
theorem impl_IsVector.l0_eq {ρ : Type} (N : Nat) (K : AV → Heap → Option ρ) (p0 : Int) (nv1 : Int) (v2 : Nat → Int) :
    ∀ (m : Nat) (x5 : Int), xloop (xcode (E31 N) ents impl_IsVector.kp 0 N (cL (cK (cB (cA (cB (cB impl_IsVector.bd)))))) 0) impl_IsVector.kp 0 0 m (impl_IsVector.st0 p0 nv1 v2 x5) (impl_IsVector.k0 N K) = (impl_IsVector.l0 N (fun d0 => K (.bool (d0)) []) p0 nv1 v2 ((impl_IsVector.k0 N K) (.exit 0) (impl_IsVector.sx0_0)) m x5) := by
  intro m
  induction m with
  | zero => intros; rfl
  | succ m ih =>
    intro x5
    refine (impl_IsVector.b0_eq N K (fun s => xloop (xcode (E31 N) ents impl_IsVector.kp 0 N (cL (cK (cB (cA (cB (cB impl_IsVector.bd)))))) 0) impl_IsVector.kp 0 0 m s (impl_IsVector.k0 N K)) p0 nv1 v2 x5).trans ?_
    simp only [ih]
    kernel_rfl
theorem impl_IsVector.s_eq {ρ : Type} (N : Nat) (K : AV → Heap → Option ρ) (p0 : Int) (nv1 : Int) (v2 : Nat → Int) :
    xbody (E31 N) ents impl_IsVector.kp N Try.f84 impl_IsVector.bd [.int .i64 (p0), .int .i64 (nv1), .agg [⟨.u8, 8, v2⟩]] [] K = (impl_IsVector.s N (fun d0 => K (.bool (d0)) []) (fun x5 => xloop (xcode (E31 N) ents impl_IsVector.kp 0 N (cL (cK (cB (cA (cB (cB impl_IsVector.bd)))))) 0) impl_IsVector.kp 0 0 N (impl_IsVector.st0 p0 nv1 v2 x5) (impl_IsVector.k0 N K)) p0 nv1) := by kernel_rfl
theorem impl_IsVector.eq {ρ : Type} (N : Nat) (K : AV → Heap → Option ρ) (p0 : Int) (nv1 : Int) (v2 : Nat → Int) :
    xbody (E31 N) ents impl_IsVector.kp N Try.f84 impl_IsVector.bd [.int .i64 (p0), .int .i64 (nv1), .agg [⟨.u8, 8, v2⟩]] [] K = (impl_IsVector N (fun d0 => K (.bool (d0)) []) p0 nv1 v2) := by
  refine (impl_IsVector.s_eq N K p0 nv1 v2).trans ?_
  simp only [impl_IsVector.l0_eq, impl_IsVector.a0_0_eq]
  kernel_rfl
def impl_IsVector.en (N : Nat) (ρ : Type) : List AV → Heap → (AV → Heap → Option ρ) → Option ρ
  | [.int .i64 (p0), .int .i64 (nv1), .agg [⟨.u8, 8, v2⟩]], [], K => (impl_IsVector N (fun d0 => K (.bool (d0)) []) p0 nv1 v2)
  | _, _, _ => none
theorem impl_IsVector.en_ok (N : Nat) (hE : EnvOk (E31 N) ents) (ρ : Type) (args : List AV) (sh : Heap) (K : AV → Heap → Option ρ) (r : ρ) (h : impl_IsVector.en N ρ args sh K = some r) : ∃ v sh', K v sh' = some r ∧ FnOk (E31 N).P 84 args sh v sh' := by
  unfold impl_IsVector.en at h
  split at h
  · exact fn_ok hE (kp := impl_IsVector.kp) (N := N) Try.func84 (c := impl_IsVector.bd) (by kernel_rfl) ((impl_IsVector.eq N _ _ _ _).trans h)
  · cases h
def E32 (N : Nat) : Env := (E31 N).add 84 (impl_IsVector.en N)
theorem E32_ok (N : Nat) : EnvOk (E32 N) ents := Env.add_ok (E31_ok N) (impl_IsVector.en_ok N (E31_ok N))
def impl_isLinear.kp : Keeps := ⟨[(0, [0, 1, 2, 11, 12], [], [])], [(0, [], [], [])], []⟩
def impl_isLinear.bd : Code := bodyOf Try.f102
def impl_isLinear.fin {ρ : Type} (N : Nat) (K : AV → Heap → Option ρ) (gv3 : Nat → Int) : XE → St → Option ρ := finK (E32 N) impl_isLinear.kp.fins Try.f102 [⟨false, .flat 64 (.ints .u8 gv3)⟩] K
def impl_isLinear.k0 {ρ : Type} (N : Nat) (K : AV → Heap → Option ρ) (gv3 : Nat → Int) : XE → St → Option ρ := (blockK impl_isLinear.kp 1 0 (seqK (xcode (E32 N) ents impl_isLinear.kp 1 N (cB (cB impl_isLinear.bd)) 0) (impl_isLinear.fin N K gv3)))
theorem impl_isLinear.k0_mix {ρ : Type} (N : Nat) (K : AV → Heap → Option ρ) (gv3 : Nat → Int) : mixK (impl_isLinear.fin N K gv3 .ret) (impl_isLinear.k0 N K gv3) = (impl_isLinear.k0 N K gv3) := by
  funext e s; cases e <;> kernel_rfl
def impl_isLinear.st0 (p0 : Int) (nv1 : Int) (size2 : Int) (gv3 : Nat → Int) (x4 : Int) : St := ⟨sl 34 [(0, .int .i64 (p0)), (1, .int .i64 (nv1)), (2, .int .i64 (size2)), (11, .sptr [(0, 64)]), (12, .int .i64 (x4))], [⟨false, .flat 64 (.ints .u8 gv3)⟩]⟩
def impl_isLinear.sx0_0 (gv3 : Nat → Int) : St := ⟨sl 34 [], [⟨false, .flat 64 (.ints .u8 gv3)⟩]⟩
theorem impl_isLinear.b0_gen {ρ : Type} (N : Nat) (K : AV → Heap → Option ρ) (L0 : St → Option ρ) (kv : XE → St → Option ρ) (p0 : Int) (nv1 : Int) (size2 : Int) (gv3 : Nat → Int) (x4 : Int) :
    xcode (E32 N) ents impl_isLinear.kp 1 N (cL (cK (cB (cA (cB impl_isLinear.bd))))) 0 (impl_isLinear.st0 p0 nv1 size2 gv3 x4) (roundK impl_isLinear.kp 1 0 L0 (mixK (impl_isLinear.fin N K gv3 .ret) kv)) = (impl_isLinear.b0 N (fun d0 => K (.bool (d0)) [⟨false, .flat 64 (.ints .u8 gv3)⟩]) (fun x4 => L0 (impl_isLinear.st0 p0 nv1 size2 gv3 x4)) (kv (.exit 0) (impl_isLinear.sx0_0 gv3)) p0 nv1 size2 gv3 x4) := by kernel_rfl
theorem impl_isLinear.b0_eq {ρ : Type} (N : Nat) (K : AV → Heap → Option ρ) (L0 : St → Option ρ) (p0 : Int) (nv1 : Int) (size2 : Int) (gv3 : Nat → Int) (x4 : Int) :
    xcode (E32 N) ents impl_isLinear.kp 1 N (cL (cK (cB (cA (cB impl_isLinear.bd))))) 0 (impl_isLinear.st0 p0 nv1 size2 gv3 x4) (roundK impl_isLinear.kp 1 0 L0 (impl_isLinear.k0 N K gv3)) = (impl_isLinear.b0 N (fun d0 => K (.bool (d0)) [⟨false, .flat 64 (.ints .u8 gv3)⟩]) (fun x4 => L0 (impl_isLinear.st0 p0 nv1 size2 gv3 x4)) ((impl_isLinear.k0 N K gv3) (.exit 0) (impl_isLinear.sx0_0 gv3)) p0 nv1 size2 gv3 x4) := by
  have h := impl_isLinear.b0_gen N K L0 (impl_isLinear.k0 N K gv3) p0 nv1 size2 gv3 x4
  rw [impl_isLinear.k0_mix] at h
  exact h
theorem impl_isLinear.a0_0_eq {ρ : Type} (N : Nat) (K : AV → Heap → Option ρ) (gv3 : Nat → Int) :
    (impl_isLinear.k0 N K gv3) (.exit 0) (impl_isLinear.sx0_0 gv3) = (impl_isLinear.a0_0 N (fun d0 => K (.bool (d0)) [⟨false, .flat 64 (.ints .u8 gv3)⟩])) := by kernel_rfl
theorem impl_isLinear.l0_eq {ρ : Type} (N : Nat) (K : AV → Heap → Option ρ) (p0 : Int) (nv1 : Int) (size2 : Int) (gv3 : Nat → Int) :
    ∀ (m : Nat) (x4 : Int), xloop (xcode (E32 N) ents impl_isLinear.kp 1 N (cL (cK (cB (cA (cB impl_isLinear.bd))))) 0) impl_isLinear.kp 1 0 m (impl_isLinear.st0 p0 nv1 size2 gv3 x4) (impl_isLinear.k0 N K gv3) = (impl_isLinear.l0 N (fun d0 => K (.bool (d0)) [⟨false, .flat 64 (.ints .u8 gv3)⟩]) p0 nv1 size2 gv3 ((impl_isLinear.k0 N K gv3) (.exit 0) (impl_isLinear.sx0_0 gv3)) m x4) := by
  intro m
  induction m with
  | zero => intros; rfl
  | succ m ih =>
    intro x4
    refine (impl_isLinear.b0_eq N K (fun s => xloop (xcode (E32 N) ents impl_isLinear.kp 1 N (cL (cK (cB (cA (cB impl_isLinear.bd))))) 0) impl_isLinear.kp 1 0 m s (impl_isLinear.k0 N K gv3)) p0 nv1 size2 gv3 x4).trans ?_
    simp only [ih]
    kernel_rfl
theorem impl_isLinear.s_eq {ρ : Type} (N : Nat) (K : AV → Heap → Option ρ) (p0 : Int) (nv1 : Int) (size2 : Int) (gv3 : Nat → Int) :
    xbody (E32 N) ents impl_isLinear.kp N Try.f102 impl_isLinear.bd [.int .i64 (p0), .int .i64 (nv1), .int .i64 (size2), .sptr [(0, 64)]] [⟨false, .flat 64 (.ints .u8 gv3)⟩] K = (impl_isLinear.s N (fun d0 => K (.bool (d0)) [⟨false, .flat 64 (.ints .u8 gv3)⟩]) (fun x4 => xloop (xcode (E32 N) ents impl_isLinear.kp 1 N (cL (cK (cB (cA (cB impl_isLinear.bd))))) 0) impl_isLinear.kp 1 0 N (impl_isLinear.st0 p0 nv1 size2 gv3 x4) (impl_isLinear.k0 N K gv3))) := by kernel_rfl
theorem impl_isLinear.eq {ρ : Type} (N : Nat) (K : AV → Heap → Option ρ) (p0 : Int) (nv1 : Int) (size2 : Int) (gv3 : Nat → Int) :
    xbody (E32 N) ents impl_isLinear.kp N Try.f102 impl_isLinear.bd [.int .i64 (p0), .int .i64 (nv1), .int .i64 (size2), .sptr [(0, 64)]] [⟨false, .flat 64 (.ints .u8 gv3)⟩] K = (impl_isLinear N (fun d0 => K (.bool (d0)) [⟨false, .flat 64 (.ints .u8 gv3)⟩]) p0 nv1 size2 gv3) := by
  refine (impl_isLinear.s_eq N K p0 nv1 size2 gv3).trans ?_
  simp only [impl_isLinear.l0_eq, impl_isLinear.a0_0_eq]
  kernel_rfl
def impl_isLinear.en (N : Nat) (ρ : Type) : List AV → Heap → (AV → Heap → Option ρ) → Option ρ
  | [.int .i64 (p0), .int .i64 (nv1), .int .i64 (size2), .sptr [(0, 64)]], [⟨false, .flat 64 (.ints .u8 gv3)⟩], K => (impl_isLinear N (fun d0 => K (.bool (d0)) [⟨false, .flat 64 (.ints .u8 gv3)⟩]) p0 nv1 size2 gv3)
  | _, _, _ => none
theorem impl_isLinear.en_ok (N : Nat) (hE : EnvOk (E32 N) ents) (ρ : Type) (args : List AV) (sh : Heap) (K : AV → Heap → Option ρ) (r : ρ) (h : impl_isLinear.en N ρ args sh K = some r) : ∃ v sh', K v sh' = some r ∧ FnOk (E32 N).P 102 args sh v sh' := by
  unfold impl_isLinear.en at h
  split at h
  · exact fn_ok hE (kp := impl_isLinear.kp) (N := N) Try.func102 (c := impl_isLinear.bd) (by kernel_rfl) ((impl_isLinear.eq N _ _ _ _ _).trans h)
  · cases h
def E33 (N : Nat) : Env := (E32 N).add 102 (impl_isLinear.en N)
theorem E33_ok (N : Nat) : EnvOk (E33 N) ents := Env.add_ok (E32_ok N) (impl_isLinear.en_ok N (E32_ok N))
def impl_isTable.kp : Keeps := ⟨[(0, [0, 1, 2, 8], [], [])], [(0, [], [], [])], []⟩
def impl_isTable.bd : Code := bodyOf Try.f85
def impl_isTable.fin {ρ : Type} (N : Nat) (K : AV → Heap → Option ρ) (gv2 : Nat → Int) : XE → St → Option ρ := finK (E33 N) impl_isTable.kp.fins Try.f85 [⟨false, .flat 512 (.ints .u8 gv2)⟩] K
def impl_isTable.k0 {ρ : Type} (N : Nat) (K : AV → Heap → Option ρ) (gv2 : Nat → Int) : XE → St → Option ρ := (blockK impl_isTable.kp 1 0 (seqK (xcode (E33 N) ents impl_isTable.kp 1 N (cB (cB impl_isTable.bd)) 0) (impl_isTable.fin N K gv2)))
theorem impl_isTable.k0_mix {ρ : Type} (N : Nat) (K : AV → Heap → Option ρ) (gv2 : Nat → Int) : mixK (impl_isTable.fin N K gv2 .ret) (impl_isTable.k0 N K gv2) = (impl_isTable.k0 N K gv2) := by
  funext e s; cases e <;> kernel_rfl
def impl_isTable.st0 (p0 : Int) (nv1 : Int) (gv2 : Nat → Int) (x3 : Int) : St := ⟨sl 35 [(0, .int .i64 (p0)), (1, .int .i64 (nv1)), (2, .sptr [(0, 512)]), (8, .int .i64 (x3))], [⟨false, .flat 512 (.ints .u8 gv2)⟩]⟩
def impl_isTable.sx0_0 (gv2 : Nat → Int) : St := ⟨sl 35 [], [⟨false, .flat 512 (.ints .u8 gv2)⟩]⟩
theorem impl_isTable.b0_gen {ρ : Type} (N : Nat) (K : AV → Heap → Option ρ) (L0 : St → Option ρ) (kv : XE → St → Option ρ) (p0 : Int) (nv1 : Int) (gv2 : Nat → Int) (x3 : Int) :
    xcode (E33 N) ents impl_isTable.kp 1 N (cL (cK (cB (cA (cB impl_isTable.bd))))) 0 (impl_isTable.st0 p0 nv1 gv2 x3) (roundK impl_isTable.kp 1 0 L0 (mixK (impl_isTable.fin N K gv2 .ret) kv)) = (impl_isTable.b0 N (fun d0 => K (.bool (d0)) [⟨false, .flat 512 (.ints .u8 gv2)⟩]) (fun x3 => L0 (impl_isTable.st0 p0 nv1 gv2 x3)) (kv (.exit 0) (impl_isTable.sx0_0 gv2)) p0 nv1 gv2 x3) := by kernel_rfl
theorem impl_isTable.b0_eq {ρ : Type} (N : Nat) (K : AV → Heap → Option ρ) (L0 : St → Option ρ) (p0 : Int) (nv1 : Int) (gv2 : Nat → Int) (x3 : Int) :
    xcode (E33 N) ents impl_isTable.kp 1 N (cL (cK (cB (cA (cB impl_isTable.bd))))) 0 (impl_isTable.st0 p0 nv1 gv2 x3) (roundK impl_isTable.kp 1 0 L0 (impl_isTable.k0 N K gv2)) = (impl_isTable.b0 N (fun d0 => K (.bool (d0)) [⟨false, .flat 512 (.ints .u8 gv2)⟩]) (fun x3 => L0 (impl_isTable.st0 p0 nv1 gv2 x3)) ((impl_isTable.k0 N K gv2) (.exit 0) (impl_isTable.sx0_0 gv2)) p0 nv1 gv2 x3) := by
  have h := impl_isTable.b0_gen N K L0 (impl_isTable.k0 N K gv2) p0 nv1 gv2 x3
  rw [impl_isTable.k0_mix] at h
  exact h
theorem impl_isTable.a0_0_eq {ρ : Type} (N : Nat) (K : AV → Heap → Option ρ) (gv2 : Nat → Int) :
    (impl_isTable.k0 N K gv2) (.exit 0) (impl_isTable.sx0_0 gv2) = (impl_isTable.a0_0 N (fun d0 => K (.bool (d0)) [⟨false, .flat 512 (.ints .u8 gv2)⟩])) := by kernel_rfl
theorem impl_isTable.l0_eq {ρ : Type} (N : Nat) (K : AV → Heap → Option ρ) (p0 : Int) (nv1 : Int) (gv2 : Nat → Int) :
    ∀ (m : Nat) (x3 : Int), xloop (xcode (E33 N) ents impl_isTable.kp 1 N (cL (cK (cB (cA (cB impl_isTable.bd))))) 0) impl_isTable.kp 1 0 m (impl_isTable.st0 p0 nv1 gv2 x3) (impl_isTable.k0 N K gv2) = (impl_isTable.l0 N (fun d0 => K (.bool (d0)) [⟨false, .flat 512 (.ints .u8 gv2)⟩]) p0 nv1 gv2 ((impl_isTable.k0 N K gv2) (.exit 0) (impl_isTable.sx0_0 gv2)) m x3) := by
  intro m
  induction m with
  | zero => intros; rfl
  | succ m ih =>
    intro x3
    refine (impl_isTable.b0_eq N K (fun s => xloop (xcode (E33 N) ents impl_isTable.kp 1 N (cL (cK (cB (cA (cB impl_isTable.bd))))) 0) impl_isTable.kp 1 0 m s (impl_isTable.k0 N K gv2)) p0 nv1 gv2 x3).trans ?_
    simp only [ih]
    kernel_rfl
theorem impl_isTable.s_eq {ρ : Type} (N : Nat) (K : AV → Heap → Option ρ) (p0 : Int) (nv1 : Int) (gv2 : Nat → Int) :
    xbody (E33 N) ents impl_isTable.kp N Try.f85 impl_isTable.bd [.int .i64 (p0), .int .i64 (nv1), .sptr [(0, 512)]] [⟨false, .flat 512 (.ints .u8 gv2)⟩] K = (impl_isTable.s N (fun d0 => K (.bool (d0)) [⟨false, .flat 512 (.ints .u8 gv2)⟩]) (fun x3 => xloop (xcode (E33 N) ents impl_isTable.kp 1 N (cL (cK (cB (cA (cB impl_isTable.bd))))) 0) impl_isTable.kp 1 0 N (impl_isTable.st0 p0 nv1 gv2 x3) (impl_isTable.k0 N K gv2))) := by kernel_rfl
theorem impl_isTable.eq {ρ : Type} (N : Nat) (K : AV → Heap → Option ρ) (p0 : Int) (nv1 : Int) (gv2 : Nat → Int) :
    xbody (E33 N) ents impl_isTable.kp N Try.f85 impl_isTable.bd [.int .i64 (p0), .int .i64 (nv1), .sptr [(0, 512)]] [⟨false, .flat 512 (.ints .u8 gv2)⟩] K = (impl_isTable N (fun d0 => K (.bool (d0)) [⟨false, .flat 512 (.ints .u8 gv2)⟩]) p0 nv1 gv2) := by
  refine (impl_isTable.s_eq N K p0 nv1 gv2).trans ?_
  simp only [impl_isTable.l0_eq, impl_isTable.a0_0_eq]
  kernel_rfl
def impl_isTable.en (N : Nat) (ρ : Type) : List AV → Heap → (AV → Heap → Option ρ) → Option ρ
  | [.int .i64 (p0), .int .i64 (nv1), .sptr [(0, 512)]], [⟨false, .flat 512 (.ints .u8 gv2)⟩], K => (impl_isTable N (fun d0 => K (.bool (d0)) [⟨false, .flat 512 (.ints .u8 gv2)⟩]) p0 nv1 gv2)
  | _, _, _ => none
theorem impl_isTable.en_ok (N : Nat) (hE : EnvOk (E33 N) ents) (ρ : Type) (args : List AV) (sh : Heap) (K : AV → Heap → Option ρ) (r : ρ) (h : impl_isTable.en N ρ args sh K = some r) : ∃ v sh', K v sh' = some r ∧ FnOk (E33 N).P 85 args sh v sh' := by
  unfold impl_isTable.en at h
  split at h
  · exact fn_ok hE (kp := impl_isTable.kp) (N := N) Try.func85 (c := impl_isTable.bd) (by kernel_rfl) ((impl_isTable.eq N _ _ _ _).trans h)
  · cases h
def E34 (N : Nat) : Env := (E33 N).add 85 (impl_isTable.en N)
theorem E34_ok (N : Nat) : EnvOk (E34 N) ents := Env.add_ok (E33_ok N) (impl_isTable.en_ok N (E33_ok N))
def impl_Algebra_isShaped.kp : Keeps := ⟨[], [], []⟩
def impl_Algebra_isShaped.bd : Code := bodyOf Try.f50
def impl_Algebra_isShaped.fin {ρ : Type} (N : Nat) (K : AV → Heap → Option ρ) (gv0 : Nat → Int) (gv1 : Nat → Int) : XE → St → Option ρ := finK (E34 N) impl_Algebra_isShaped.kp.fins Try.f50 [⟨false, .flat 2 (.ints .i64 gv0)⟩, ⟨false, .flat 520 (.ints .u8 gv1)⟩] K
theorem impl_Algebra_isShaped.eq {ρ : Type} (N : Nat) (K : AV → Heap → Option ρ) (gv0 : Nat → Int) (gv1 : Nat → Int) :
    xbody (E34 N) ents impl_Algebra_isShaped.kp N Try.f50 impl_Algebra_isShaped.bd [.sptr [(0, 2), (1, 520)]] [⟨false, .flat 2 (.ints .i64 gv0)⟩, ⟨false, .flat 520 (.ints .u8 gv1)⟩] K = (impl_Algebra_isShaped N (fun d0 => K (.bool (d0)) [⟨false, .flat 2 (.ints .i64 gv0)⟩, ⟨false, .flat 520 (.ints .u8 gv1)⟩]) gv0 gv1) := by kernel_rfl
def impl_Algebra_isShaped.en (N : Nat) (ρ : Type) : List AV → Heap → (AV → Heap → Option ρ) → Option ρ
  | [.sptr [(0, 2), (1, 520)]], [⟨false, .flat 2 (.ints .i64 gv0)⟩, ⟨false, .flat 520 (.ints .u8 gv1)⟩], K => (impl_Algebra_isShaped N (fun d0 => K (.bool (d0)) [⟨false, .flat 2 (.ints .i64 gv0)⟩, ⟨false, .flat 520 (.ints .u8 gv1)⟩]) gv0 gv1)
  | _, _, _ => none
theorem impl_Algebra_isShaped.en_ok (N : Nat) (hE : EnvOk (E34 N) ents) (ρ : Type) (args : List AV) (sh : Heap) (K : AV → Heap → Option ρ) (r : ρ) (h : impl_Algebra_isShaped.en N ρ args sh K = some r) : ∃ v sh', K v sh' = some r ∧ FnOk (E34 N).P 50 args sh v sh' := by
  unfold impl_Algebra_isShaped.en at h
  split at h
  · exact fn_ok hE (kp := impl_Algebra_isShaped.kp) (N := N) Try.func50 (c := impl_Algebra_isShaped.bd) (by kernel_rfl) ((impl_Algebra_isShaped.eq N _ _ _).trans h)
  · cases h
def E35 (N : Nat) : Env := (E34 N).add 50 (impl_Algebra_isShaped.en N)
theorem E35_ok (N : Nat) : EnvOk (E35 N) ents := Env.add_ok (E34_ok N) (impl_Algebra_isShaped.en_ok N (E34_ok N))
def impl_basis.kp : Keeps := ⟨[], [], []⟩
def impl_basis.bd : Code := bodyOf Try.f51
def impl_basis.fin {ρ : Type} (N : Nat) (K : AV → Heap → Option ρ) : XE → St → Option ρ := finK (E35 N) impl_basis.kp.fins Try.f51 [] K
theorem impl_basis.eq {ρ : Type} (N : Nat) (K : AV → Heap → Option ρ) (i0 : Int) :
    xbody (E35 N) ents impl_basis.kp N Try.f51 impl_basis.bd [.int .i64 (i0)] [] K = (impl_basis N (fun d0 => K (.agg [⟨.u8, 8, d0⟩]) []) i0) := by kernel_rfl
def impl_basis.en (N : Nat) (ρ : Type) : List AV → Heap → (AV → Heap → Option ρ) → Option ρ
  | [.int .i64 (i0)], [], K => (impl_basis N (fun d0 => K (.agg [⟨.u8, 8, d0⟩]) []) i0)
  | _, _, _ => none
theorem impl_basis.en_ok (N : Nat) (hE : EnvOk (E35 N) ents) (ρ : Type) (args : List AV) (sh : Heap) (K : AV → Heap → Option ρ) (r : ρ) (h : impl_basis.en N ρ args sh K = some r) : ∃ v sh', K v sh' = some r ∧ FnOk (E35 N).P 51 args sh v sh' := by
  unfold impl_basis.en at h
  split at h
  · exact fn_ok hE (kp := impl_basis.kp) (N := N) Try.func51 (c := impl_basis.bd) (by kernel_rfl) ((impl_basis.eq N _ _).trans h)
  · cases h
def E36 (N : Nat) : Env := (E35 N).add 51 (impl_basis.en N)
theorem E36_ok (N : Nat) : EnvOk (E36 N) ents := Env.add_ok (E35_ok N) (impl_basis.en_ok N (E35_ok N))
def impl_Algebra_field.kp : Keeps := ⟨[], [], []⟩
def impl_Algebra_field.bd : Code := bodyOf Try.f63
def impl_Algebra_field.fin {ρ : Type} (N : Nat) (K : AV → Heap → Option ρ) (gv0 : Nat → Int) (gv1 : Nat → Int) : XE → St → Option ρ := finK (E36 N) impl_Algebra_field.kp.fins Try.f63 [⟨false, .flat 2 (.ints .i64 gv0)⟩, ⟨false, .flat 520 (.ints .u8 gv1)⟩] K
theorem impl_Algebra_field.eq {ρ : Type} (N : Nat) (K : AV → Heap → Option ρ) (gv0 : Nat → Int) (gv1 : Nat → Int) :
    xbody (E36 N) ents impl_Algebra_field.kp N Try.f63 impl_Algebra_field.bd [.sptr [(0, 2), (1, 520)]] [⟨false, .flat 2 (.ints .i64 gv0)⟩, ⟨false, .flat 520 (.ints .u8 gv1)⟩] K = (impl_Algebra_field N (fun d0 => K (.agg [⟨.i64, 2, d0⟩]) [⟨false, .flat 2 (.ints .i64 gv0)⟩, ⟨false, .flat 520 (.ints .u8 gv1)⟩]) gv0 gv1) := by kernel_rfl
def impl_Algebra_field.en (N : Nat) (ρ : Type) : List AV → Heap → (AV → Heap → Option ρ) → Option ρ
  | [.sptr [(0, 2), (1, 520)]], [⟨false, .flat 2 (.ints .i64 gv0)⟩, ⟨false, .flat 520 (.ints .u8 gv1)⟩], K => (impl_Algebra_field N (fun d0 => K (.agg [⟨.i64, 2, d0⟩]) [⟨false, .flat 2 (.ints .i64 gv0)⟩, ⟨false, .flat 520 (.ints .u8 gv1)⟩]) gv0 gv1)
  | _, _, _ => none
theorem impl_Algebra_field.en_ok (N : Nat) (hE : EnvOk (E36 N) ents) (ρ : Type) (args : List AV) (sh : Heap) (K : AV → Heap → Option ρ) (r : ρ) (h : impl_Algebra_field.en N ρ args sh K = some r) : ∃ v sh', K v sh' = some r ∧ FnOk (E36 N).P 63 args sh v sh' := by
  unfold impl_Algebra_field.en at h
  split at h
  · exact fn_ok hE (kp := impl_Algebra_field.kp) (N := N) Try.func63 (c := impl_Algebra_field.bd) (by kernel_rfl) ((impl_Algebra_field.eq N _ _ _).trans h)
  · cases h
def E37 (N : Nat) : Env := (E36 N).add 63 (impl_Algebra_field.en N)
theorem E37_ok (N : Nat) : EnvOk (E37 N) ents := Env.add_ok (E36_ok N) (impl_Algebra_field.en_ok N (E36_ok N))
def impl_field_mod.kp : Keeps := ⟨[], [], []⟩
def impl_field_mod.bd : Code := bodyOf Try.f91
def impl_field_mod.fin {ρ : Type} (N : Nat) (K : AV → Heap → Option ρ) : XE → St → Option ρ := finK (E37 N) impl_field_mod.kp.fins Try.f91 [] K
theorem impl_field_mod.eq {ρ : Type} (N : Nat) (K : AV → Heap → Option ρ) (f0 : Nat → Int) (x1 : Int) :
    xbody (E37 N) ents impl_field_mod.kp N Try.f91 impl_field_mod.bd [.agg [⟨.i64, 2, f0⟩], .int .i64 (x1)] [] K = (impl_field_mod N (fun d0 => K (.int .u8 (d0)) []) f0 x1) := by kernel_rfl
def impl_field_mod.en (N : Nat) (ρ : Type) : List AV → Heap → (AV → Heap → Option ρ) → Option ρ
  | [.agg [⟨.i64, 2, f0⟩], .int .i64 (x1)], [], K => (impl_field_mod N (fun d0 => K (.int .u8 (d0)) []) f0 x1)
  | _, _, _ => none
theorem impl_field_mod.en_ok (N : Nat) (hE : EnvOk (E37 N) ents) (ρ : Type) (args : List AV) (sh : Heap) (K : AV → Heap → Option ρ) (r : ρ) (h : impl_field_mod.en N ρ args sh K = some r) : ∃ v sh', K v sh' = some r ∧ FnOk (E37 N).P 91 args sh v sh' := by
  unfold impl_field_mod.en at h
  split at h
  · exact fn_ok hE (kp := impl_field_mod.kp) (N := N) Try.func91 (c := impl_field_mod.bd) (by kernel_rfl) ((impl_field_mod.eq N _ _ _).trans h)
  · cases h
def E38 (N : Nat) : Env := (E37 N).add 91 (impl_field_mod.en N)
theorem E38_ok (N : Nat) : EnvOk (E38 N) ents := Env.add_ok (E37_ok N) (impl_field_mod.en_ok N (E37_ok N))
def impl_field_plus.kp : Keeps := ⟨[(0, [1, 2, 4, 12, 13], [], [])], [(0, [], [], [])], []⟩
def impl_field_plus.bd : Code := bodyOf Try.f74
def impl_field_plus.fin {ρ : Type} (N : Nat) (K : AV → Heap → Option ρ) (gv3 : Nat → Int) : XE → St → Option ρ := finK (E38 N) impl_field_plus.kp.fins Try.f74 [⟨true, .flat 8 (.ints .u8 gv3)⟩] K
def impl_field_plus.k0 {ρ : Type} (N : Nat) (K : AV → Heap → Option ρ) (gv3 : Nat → Int) : XE → St → Option ρ := (blockK impl_field_plus.kp 1 0 (impl_field_plus.fin N K gv3))
theorem impl_field_plus.k0_mix {ρ : Type} (N : Nat) (K : AV → Heap → Option ρ) (gv3 : Nat → Int) : mixK (impl_field_plus.fin N K gv3 .ret) (impl_field_plus.k0 N K gv3) = (impl_field_plus.k0 N K gv3) := by
  funext e s; cases e <;> kernel_rfl
def impl_field_plus.st0 (f0 : Nat → Int) (k1 : Int) (w2 : Nat → Int) (x4 : Int) (gv5 : Nat → Int) : St := ⟨sl 35 [(1, .sptr [(0, 8)]), (2, .int .i64 (k1)), (4, .sptr [(1, 2)]), (12, .agg [⟨.u8, 8, w2⟩]), (13, .int .i64 (x4))], [⟨true, .flat 8 (.ints .u8 gv5)⟩, ⟨true, .flat 2 (.ints .i64 f0)⟩]⟩
def impl_field_plus.sx0_0 (ov7 : Nat → Int) : St := ⟨sl 35 [], [⟨true, .flat 8 (.ints .u8 ov7)⟩]⟩
theorem impl_field_plus.b0_gen {ρ : Type} (N : Nat) (K : AV → Heap → Option ρ) (L0 : St → Option ρ) (kv : XE → St → Option ρ) (f0 : Nat → Int) (k1 : Int) (w2 : Nat → Int) (gv3 : Nat → Int) (x4 : Int) (gv5 : Nat → Int) :
    xcode (E38 N) ents impl_field_plus.kp 1 N (cL (cK (cB (cB (cB impl_field_plus.bd))))) 0 (impl_field_plus.st0 f0 k1 w2 x4 gv5) (roundK impl_field_plus.kp 1 0 L0 (mixK (impl_field_plus.fin N K gv3 .ret) kv)) = (impl_field_plus.b0 N (fun d0 => K (.tup []) [⟨true, .flat 8 (.ints .u8 d0)⟩]) (fun x4 gv5 => L0 (impl_field_plus.st0 f0 k1 w2 x4 gv5)) (fun ov7 => kv (.exit 0) (impl_field_plus.sx0_0 ov7)) f0 k1 w2 x4 gv5) := by kernel_rfl
theorem impl_field_plus.b0_eq {ρ : Type} (N : Nat) (K : AV → Heap → Option ρ) (L0 : St → Option ρ) (f0 : Nat → Int) (k1 : Int) (w2 : Nat → Int) (gv3 : Nat → Int) (x4 : Int) (gv5 : Nat → Int) :
    xcode (E38 N) ents impl_field_plus.kp 1 N (cL (cK (cB (cB (cB impl_field_plus.bd))))) 0 (impl_field_plus.st0 f0 k1 w2 x4 gv5) (roundK impl_field_plus.kp 1 0 L0 (impl_field_plus.k0 N K gv3)) = (impl_field_plus.b0 N (fun d0 => K (.tup []) [⟨true, .flat 8 (.ints .u8 d0)⟩]) (fun x4 gv5 => L0 (impl_field_plus.st0 f0 k1 w2 x4 gv5)) (fun ov7 => (impl_field_plus.k0 N K gv3) (.exit 0) (impl_field_plus.sx0_0 ov7)) f0 k1 w2 x4 gv5) := by
  have h := impl_field_plus.b0_gen N K L0 (impl_field_plus.k0 N K gv3) f0 k1 w2 gv3 x4 gv5
  rw [impl_field_plus.k0_mix] at h
  exact h
theorem impl_field_plus.a0_0_eq {ρ : Type} (N : Nat) (K : AV → Heap → Option ρ) (gv3 : Nat → Int) (ov7 : Nat → Int) :
    (impl_field_plus.k0 N K gv3) (.exit 0) (impl_field_plus.sx0_0 ov7) = (impl_field_plus.a0_0 N (fun d0 => K (.tup []) [⟨true, .flat 8 (.ints .u8 d0)⟩]) ov7) := by kernel_rfl
theorem impl_field_plus.l0_eq {ρ : Type} (N : Nat) (K : AV → Heap → Option ρ) (f0 : Nat → Int) (k1 : Int) (w2 : Nat → Int) (gv3 : Nat → Int) :
    ∀ (m : Nat) (x4 : Int) (gv5 : Nat → Int), xloop (xcode (E38 N) ents impl_field_plus.kp 1 N (cL (cK (cB (cB (cB impl_field_plus.bd))))) 0) impl_field_plus.kp 1 0 m (impl_field_plus.st0 f0 k1 w2 x4 gv5) (impl_field_plus.k0 N K gv3) = (impl_field_plus.l0 N (fun d0 => K (.tup []) [⟨true, .flat 8 (.ints .u8 d0)⟩]) f0 k1 w2 (fun ov7 => (impl_field_plus.k0 N K gv3) (.exit 0) (impl_field_plus.sx0_0 ov7)) m x4 gv5) := by
  intro m
  induction m with
  | zero => intros; rfl
  | succ m ih =>
    intro x4 gv5
    refine (impl_field_plus.b0_eq N K (fun s => xloop (xcode (E38 N) ents impl_field_plus.kp 1 N (cL (cK (cB (cB (cB impl_field_plus.bd))))) 0) impl_field_plus.kp 1 0 m s (impl_field_plus.k0 N K gv3)) f0 k1 w2 gv3 x4 gv5).trans ?_
    simp only [ih]
    kernel_rfl
theorem impl_field_plus.s_eq {ρ : Type} (N : Nat) (K : AV → Heap → Option ρ) (f0 : Nat → Int) (k1 : Int) (w2 : Nat → Int) (gv3 : Nat → Int) :
    xbody (E38 N) ents impl_field_plus.kp N Try.f74 impl_field_plus.bd [.agg [⟨.i64, 2, f0⟩], .sptr [(0, 8)], .int .i64 (k1), .agg [⟨.u8, 8, w2⟩]] [⟨true, .flat 8 (.ints .u8 gv3)⟩] K = (impl_field_plus.s N (fun d0 => K (.tup []) [⟨true, .flat 8 (.ints .u8 d0)⟩]) (fun x4 gv5 => xloop (xcode (E38 N) ents impl_field_plus.kp 1 N (cL (cK (cB (cB (cB impl_field_plus.bd))))) 0) impl_field_plus.kp 1 0 N (impl_field_plus.st0 f0 k1 w2 x4 gv5) (impl_field_plus.k0 N K gv3)) k1 gv3) := by kernel_rfl
theorem impl_field_plus.eq {ρ : Type} (N : Nat) (K : AV → Heap → Option ρ) (f0 : Nat → Int) (k1 : Int) (w2 : Nat → Int) (gv3 : Nat → Int) :
    xbody (E38 N) ents impl_field_plus.kp N Try.f74 impl_field_plus.bd [.agg [⟨.i64, 2, f0⟩], .sptr [(0, 8)], .int .i64 (k1), .agg [⟨.u8, 8, w2⟩]] [⟨true, .flat 8 (.ints .u8 gv3)⟩] K = (impl_field_plus N (fun d0 => K (.tup []) [⟨true, .flat 8 (.ints .u8 d0)⟩]) f0 k1 w2 gv3) := by
  refine (impl_field_plus.s_eq N K f0 k1 w2 gv3).trans ?_
  simp only [impl_field_plus.l0_eq, impl_field_plus.a0_0_eq]
  kernel_rfl
def impl_field_plus.en (N : Nat) (ρ : Type) : List AV → Heap → (AV → Heap → Option ρ) → Option ρ
  | [.agg [⟨.i64, 2, f0⟩], .sptr [(0, 8)], .int .i64 (k1), .agg [⟨.u8, 8, w2⟩]], [⟨true, .flat 8 (.ints .u8 gv3)⟩], K => (impl_field_plus N (fun d0 => K (.tup []) [⟨true, .flat 8 (.ints .u8 d0)⟩]) f0 k1 w2 gv3)
  | _, _, _ => none
theorem impl_field_plus.en_ok (N : Nat) (hE : EnvOk (E38 N) ents) (ρ : Type) (args : List AV) (sh : Heap) (K : AV → Heap → Option ρ) (r : ρ) (h : impl_field_plus.en N ρ args sh K = some r) : ∃ v sh', K v sh' = some r ∧ FnOk (E38 N).P 74 args sh v sh' := by
  unfold impl_field_plus.en at h
  split at h
  · exact fn_ok hE (kp := impl_field_plus.kp) (N := N) Try.func74 (c := impl_field_plus.bd) (by kernel_rfl) ((impl_field_plus.eq N _ _ _ _ _).trans h)
  · cases h
def E39 (N : Nat) : Env := (E38 N).add 74 (impl_field_plus.en N)
theorem E39_ok (N : Nat) : EnvOk (E39 N) ents := Env.add_ok (E38_ok N) (impl_field_plus.en_ok N (E38_ok N))
end
end Go.Proofs.Ytmjpfchbkolcbaa.H
