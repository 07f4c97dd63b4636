import Derived.Test.YtlehklooibbmcaaHL5
namespace Go.Proofs.Ytlehklooibbmcaa.H
noncomputable section
set_option linter.unusedVariables false
set_option linter.unusedSimpArgs false
open Go Go.RowKit Go.Proofs.Ytlehklooibbmcaa.Hy
set_option maxRecDepth 100000
def Q77.kp : Keeps := ⟨[(0, [0, 2, 3, 8], [], []), (2, [0, 2, 3, 4, 8, 11], [], []), (4, [0, 2, 3, 4, 5, 8, 11, 14], [], [])], [(0, [2, 3], [], []), (2, [0, 2, 3, 8], [], []), (4, [0, 2, 3, 4, 8, 11], [], [])], []⟩
def Q77.bd : Code := bodyOf Try.f71
def Q77.fin {ρ : Type} (N : Nat) (K : AV → Heap → Option ρ) (gv0 : Nat → Int) : XE → St → Option ρ := finK (E74 N) Q77.kp.fins Try.f71 [⟨false, .flat 512 (.ints .u8 gv0)⟩] K
def Q77.k0 {ρ : Type} (N : Nat) (K : AV → Heap → Option ρ) (gv0 : Nat → Int) : XE → St → Option ρ := (blockK Q77.kp 1 0 (seqK (xcode (E74 N) ents Q77.kp 1 N (cB (cB (cB Q77.bd))) 0) (Q77.fin N K gv0)))
theorem Q77.k0_mix {ρ : Type} (N : Nat) (K : AV → Heap → Option ρ) (gv0 : Nat → Int) : mixK (Q77.fin N K gv0 .ret) (Q77.k0 N K gv0) = (Q77.k0 N K gv0) := by
  funext e s; cases e <;> kernel_rfl
def Q77.st0 (gv0 : Nat → Int) (x1 : Int) (gv2 : Nat → Int) : St := ⟨sl 36 [(0, .sptr [(0, 512)]), (2, .sptr [(1, 512)]), (3, .sptr [(2, 512)]), (8, .int .i64 (x1))], [⟨false, .flat 512 (.ints .u8 gv0)⟩, ⟨true, .flat 512 (.ints .u8 (fun _ => 0))⟩, ⟨true, .flat 512 (.ints .u8 gv2)⟩]⟩
def Q77.sx0_0 (gv0 : Nat → Int) (ov9 : Nat → Int) : St := ⟨sl 36 [(2, .sptr [(1, 512)]), (3, .sptr [(2, 512)])], [⟨false, .flat 512 (.ints .u8 gv0)⟩, ⟨true, .flat 512 (.ints .u8 (fun _ => 0))⟩, ⟨true, .flat 512 (.ints .u8 ov9)⟩]⟩
def Q77.k1g {ρ : Type} (N : Nat) (L0 : St → Option ρ) (kv : XE → St → Option ρ) : XE → St → Option ρ := (blockK Q77.kp 1 2 (blockK Q77.kp 1 1 (seqK (xcode (E74 N) ents Q77.kp 1 N (cB (cB (cB (cL (cK (cB (cA (cB (cB Q77.bd))))))))) 0) (roundK Q77.kp 1 0 L0 kv))))
theorem Q77.k1_mix {ρ : Type} (N : Nat) (K : AV → Heap → Option ρ) (L0 : St → Option ρ) (gv0 : Nat → Int) : mixK (Q77.fin N K gv0 .ret) (Q77.k1g N L0 (Q77.k0 N K gv0)) = (Q77.k1g N L0 (Q77.k0 N K gv0)) := by
  funext e s; cases e <;> kernel_rfl
def Q77.st1 (gv0 : Nat → Int) (x1 : Int) (x3 : Int) (gv4 : Nat → Int) : St := ⟨sl 36 [(0, .sptr [(0, 512)]), (2, .sptr [(1, 512)]), (3, .sptr [(2, 512)]), (4, .int .i64 (x1)), (8, .int .i64 (x1)), (11, .int .i64 (x3))], [⟨false, .flat 512 (.ints .u8 gv0)⟩, ⟨true, .flat 512 (.ints .u8 (fun _ => 0))⟩, ⟨true, .flat 512 (.ints .u8 gv4)⟩]⟩
def Q77.sx1_0 (gv0 : Nat → Int) (x1 : Int) (ov8 : Nat → Int) : St := ⟨sl 36 [(0, .sptr [(0, 512)]), (2, .sptr [(1, 512)]), (3, .sptr [(2, 512)]), (8, .int .i64 (x1))], [⟨false, .flat 512 (.ints .u8 gv0)⟩, ⟨true, .flat 512 (.ints .u8 (fun _ => 0))⟩, ⟨true, .flat 512 (.ints .u8 ov8)⟩]⟩
def Q77.k2g {ρ : Type} (N : Nat) (L1 : St → Option ρ) (kv : XE → St → Option ρ) : XE → St → Option ρ := (blockK Q77.kp 1 4 (blockK Q77.kp 1 3 (seqK (xcode (E74 N) ents Q77.kp 1 N (cB (cB (cB (cL (cK (cB (cB (cK (cA (cB (cB (cL (cK (cB (cA (cB (cB Q77.bd))))))))))))))))) 2) (roundK Q77.kp 1 2 L1 kv))))
theorem Q77.k2_mix {ρ : Type} (N : Nat) (K : AV → Heap → Option ρ) (L0 : St → Option ρ) (L1 : St → Option ρ) (gv0 : Nat → Int) : mixK (Q77.fin N K gv0 .ret) (Q77.k2g N L1 (Q77.k1g N L0 (Q77.k0 N K gv0))) = (Q77.k2g N L1 (Q77.k1g N L0 (Q77.k0 N K gv0))) := by
  funext e s; cases e <;> kernel_rfl
def Q77.st2 (gv0 : Nat → Int) (x1 : Int) (x3 : Int) (x5 : Int) (gv6 : Nat → Int) : St := ⟨sl 36 [(0, .sptr [(0, 512)]), (2, .sptr [(1, 512)]), (3, .sptr [(2, 512)]), (4, .int .i64 (x1)), (5, .int .i64 (x3)), (8, .int .i64 (x1)), (11, .int .i64 (x3)), (14, .int .i64 (x5))], [⟨false, .flat 512 (.ints .u8 gv0)⟩, ⟨true, .flat 512 (.ints .u8 (fun _ => 0))⟩, ⟨true, .flat 512 (.ints .u8 gv6)⟩]⟩
def Q77.sx2_0 (gv0 : Nat → Int) (x1 : Int) (x3 : Int) (ov7 : Nat → Int) : St := ⟨sl 36 [(0, .sptr [(0, 512)]), (2, .sptr [(1, 512)]), (3, .sptr [(2, 512)]), (4, .int .i64 (x1)), (8, .int .i64 (x1)), (11, .int .i64 (x3))], [⟨false, .flat 512 (.ints .u8 gv0)⟩, ⟨true, .flat 512 (.ints .u8 (fun _ => 0))⟩, ⟨true, .flat 512 (.ints .u8 ov7)⟩]⟩
theorem Q77.b2_gen {ρ : Type} (N : Nat) (K : AV → Heap → Option ρ) (L2 : St → Option ρ) (kv : XE → St → Option ρ) (gv0 : Nat → Int) (x1 : Int) (x3 : Int) (x5 : Int) (gv6 : Nat → Int) :
    xcode (E74 N) ents Q77.kp 1 N (cL (cK (cB (cB (cK (cA (cB (cB (cL (cK (cB (cB (cK (cA (cB (cB (cL (cK (cB (cA (cB (cB Q77.bd)))))))))))))))))))))) 4 (Q77.st2 gv0 x1 x3 x5 gv6) (roundK Q77.kp 1 4 L2 (mixK (Q77.fin N K gv0 .ret) kv)) = (Q77.b2 N (fun d0 => K (.agg [⟨.u8, 512, d0⟩]) [⟨false, .flat 512 (.ints .u8 gv0)⟩]) (fun x5 gv6 => L2 (Q77.st2 gv0 x1 x3 x5 gv6)) (fun ov7 => kv (.exit 4) (Q77.sx2_0 gv0 x1 x3 ov7)) gv0 x1 x3 x5 gv6) := by kernel_rfl
theorem Q77.b2_eq {ρ : Type} (N : Nat) (K : AV → Heap → Option ρ) (L0 : St → Option ρ) (L1 : St → Option ρ) (L2 : St → Option ρ) (gv0 : Nat → Int) (x1 : Int) (x3 : Int) (x5 : Int) (gv6 : Nat → Int) :
    xcode (E74 N) ents Q77.kp 1 N (cL (cK (cB (cB (cK (cA (cB (cB (cL (cK (cB (cB (cK (cA (cB (cB (cL (cK (cB (cA (cB (cB Q77.bd)))))))))))))))))))))) 4 (Q77.st2 gv0 x1 x3 x5 gv6) (roundK Q77.kp 1 4 L2 (Q77.k2g N L1 (Q77.k1g N L0 (Q77.k0 N K gv0)))) = (Q77.b2 N (fun d0 => K (.agg [⟨.u8, 512, d0⟩]) [⟨false, .flat 512 (.ints .u8 gv0)⟩]) (fun x5 gv6 => L2 (Q77.st2 gv0 x1 x3 x5 gv6)) (fun ov7 => (Q77.k2g N L1 (Q77.k1g N L0 (Q77.k0 N K gv0))) (.exit 4) (Q77.sx2_0 gv0 x1 x3 ov7)) gv0 x1 x3 x5 gv6) := by
  have h := Q77.b2_gen N K L2 (Q77.k2g N L1 (Q77.k1g N L0 (Q77.k0 N K gv0))) gv0 x1 x3 x5 gv6
  rw [Q77.k2_mix] at h
  exact h
theorem Q77.a2_0_gen {ρ : Type} (N : Nat) (K : AV → Heap → Option ρ) (L1 : St → Option ρ) (kv : XE → St → Option ρ) (gv0 : Nat → Int) (x1 : Int) (x3 : Int) (ov7 : Nat → Int) :
    (Q77.k2g N L1 (mixK (Q77.fin N K gv0 .ret) kv)) (.exit 4) (Q77.sx2_0 gv0 x1 x3 ov7) = (Q77.a2_0 N (fun d0 => K (.agg [⟨.u8, 512, d0⟩]) [⟨false, .flat 512 (.ints .u8 gv0)⟩]) (fun x3 gv4 => L1 (Q77.st1 gv0 x1 x3 gv4)) (fun ov8 => kv (.exit 2) (Q77.sx1_0 gv0 x1 ov8)) x3 ov7) := by kernel_rfl
theorem Q77.a2_0_eq {ρ : Type} (N : Nat) (K : AV → Heap → Option ρ) (L0 : St → Option ρ) (L1 : St → Option ρ) (gv0 : Nat → Int) (x1 : Int) (x3 : Int) (ov7 : Nat → Int) :
    (Q77.k2g N L1 (Q77.k1g N L0 (Q77.k0 N K gv0))) (.exit 4) (Q77.sx2_0 gv0 x1 x3 ov7) = (Q77.a2_0 N (fun d0 => K (.agg [⟨.u8, 512, d0⟩]) [⟨false, .flat 512 (.ints .u8 gv0)⟩]) (fun x3 gv4 => L1 (Q77.st1 gv0 x1 x3 gv4)) (fun ov8 => (Q77.k1g N L0 (Q77.k0 N K gv0)) (.exit 2) (Q77.sx1_0 gv0 x1 ov8)) x3 ov7) := by
  have h := Q77.a2_0_gen N K L1 (Q77.k1g N L0 (Q77.k0 N K gv0)) gv0 x1 x3 ov7
  rw [Q77.k1_mix] at h
  exact h
theorem Q77.b1_gen {ρ : Type} (N : Nat) (K : AV → Heap → Option ρ) (L1 : St → Option ρ) (kv : XE → St → Option ρ) (gv0 : Nat → Int) (x1 : Int) (x3 : Int) (gv4 : Nat → Int) :
    xcode (E74 N) ents Q77.kp 1 N (cL (cK (cB (cB (cK (cA (cB (cB (cL (cK (cB (cA (cB (cB Q77.bd)))))))))))))) 2 (Q77.st1 gv0 x1 x3 gv4) (roundK Q77.kp 1 2 L1 (mixK (Q77.fin N K gv0 .ret) kv)) = (Q77.b1 N (fun d0 => K (.agg [⟨.u8, 512, d0⟩]) [⟨false, .flat 512 (.ints .u8 gv0)⟩]) (fun x5 gv6 => xloop (xcode (E74 N) ents Q77.kp 1 N (cL (cK (cB (cB (cK (cA (cB (cB (cL (cK (cB (cB (cK (cA (cB (cB (cL (cK (cB (cA (cB (cB Q77.bd)))))))))))))))))))))) 4) Q77.kp 1 4 N (Q77.st2 gv0 x1 x3 x5 gv6) (Q77.k2g N L1 (mixK (Q77.fin N K gv0 .ret) kv))) (fun x3 gv4 => L1 (Q77.st1 gv0 x1 x3 gv4)) (fun ov8 => kv (.exit 2) (Q77.sx1_0 gv0 x1 ov8)) x3 gv4) := by kernel_rfl
theorem Q77.b1_eq {ρ : Type} (N : Nat) (K : AV → Heap → Option ρ) (L0 : St → Option ρ) (L1 : St → Option ρ) (gv0 : Nat → Int) (x1 : Int) (x3 : Int) (gv4 : Nat → Int) :
    xcode (E74 N) ents Q77.kp 1 N (cL (cK (cB (cB (cK (cA (cB (cB (cL (cK (cB (cA (cB (cB Q77.bd)))))))))))))) 2 (Q77.st1 gv0 x1 x3 gv4) (roundK Q77.kp 1 2 L1 (Q77.k1g N L0 (Q77.k0 N K gv0))) = (Q77.b1 N (fun d0 => K (.agg [⟨.u8, 512, d0⟩]) [⟨false, .flat 512 (.ints .u8 gv0)⟩]) (fun x5 gv6 => xloop (xcode (E74 N) ents Q77.kp 1 N (cL (cK (cB (cB (cK (cA (cB (cB (cL (cK (cB (cB (cK (cA (cB (cB (cL (cK (cB (cA (cB (cB Q77.bd)))))))))))))))))))))) 4) Q77.kp 1 4 N (Q77.st2 gv0 x1 x3 x5 gv6) (Q77.k2g N L1 (Q77.k1g N L0 (Q77.k0 N K gv0)))) (fun x3 gv4 => L1 (Q77.st1 gv0 x1 x3 gv4)) (fun ov8 => (Q77.k1g N L0 (Q77.k0 N K gv0)) (.exit 2) (Q77.sx1_0 gv0 x1 ov8)) x3 gv4) := by
  have h := Q77.b1_gen N K L1 (Q77.k1g N L0 (Q77.k0 N K gv0)) gv0 x1 x3 gv4
  rw [Q77.k1_mix] at h
  exact h
theorem Q77.a1_0_gen {ρ : Type} (N : Nat) (K : AV → Heap → Option ρ) (L0 : St → Option ρ) (kv : XE → St → Option ρ) (gv0 : Nat → Int) (x1 : Int) (ov8 : Nat → Int) :
    (Q77.k1g N L0 (mixK (Q77.fin N K gv0 .ret) kv)) (.exit 2) (Q77.sx1_0 gv0 x1 ov8) = (Q77.a1_0 N (fun d0 => K (.agg [⟨.u8, 512, d0⟩]) [⟨false, .flat 512 (.ints .u8 gv0)⟩]) (fun x1 gv2 => L0 (Q77.st0 gv0 x1 gv2)) (fun ov9 => kv (.exit 0) (Q77.sx0_0 gv0 ov9)) x1 ov8) := by kernel_rfl
theorem Q77.a1_0_eq {ρ : Type} (N : Nat) (K : AV → Heap → Option ρ) (L0 : St → Option ρ) (gv0 : Nat → Int) (x1 : Int) (ov8 : Nat → Int) :
    (Q77.k1g N L0 (Q77.k0 N K gv0)) (.exit 2) (Q77.sx1_0 gv0 x1 ov8) = (Q77.a1_0 N (fun d0 => K (.agg [⟨.u8, 512, d0⟩]) [⟨false, .flat 512 (.ints .u8 gv0)⟩]) (fun x1 gv2 => L0 (Q77.st0 gv0 x1 gv2)) (fun ov9 => (Q77.k0 N K gv0) (.exit 0) (Q77.sx0_0 gv0 ov9)) x1 ov8) := by
  have h := Q77.a1_0_gen N K L0 (Q77.k0 N K gv0) gv0 x1 ov8
  rw [Q77.k0_mix] at h
  exact h
theorem Q77.b0_gen {ρ : Type} (N : Nat) (K : AV → Heap → Option ρ) (L0 : St → Option ρ) (kv : XE → St → Option ρ) (gv0 : Nat → Int) (x1 : Int) (gv2 : Nat → Int) :
    xcode (E74 N) ents Q77.kp 1 N (cL (cK (cB (cA (cB (cB Q77.bd)))))) 0 (Q77.st0 gv0 x1 gv2) (roundK Q77.kp 1 0 L0 (mixK (Q77.fin N K gv0 .ret) kv)) = (Q77.b0 N (fun d0 => K (.agg [⟨.u8, 512, d0⟩]) [⟨false, .flat 512 (.ints .u8 gv0)⟩]) (fun x3 gv4 => xloop (xcode (E74 N) ents Q77.kp 1 N (cL (cK (cB (cB (cK (cA (cB (cB (cL (cK (cB (cA (cB (cB Q77.bd)))))))))))))) 2) Q77.kp 1 2 N (Q77.st1 gv0 x1 x3 gv4) (Q77.k1g N L0 (mixK (Q77.fin N K gv0 .ret) kv))) (fun x1 gv2 => L0 (Q77.st0 gv0 x1 gv2)) (fun ov9 => kv (.exit 0) (Q77.sx0_0 gv0 ov9)) x1 gv2) := by kernel_rfl
theorem Q77.b0_eq {ρ : Type} (N : Nat) (K : AV → Heap → Option ρ) (L0 : St → Option ρ) (gv0 : Nat → Int) (x1 : Int) (gv2 : Nat → Int) :
    xcode (E74 N) ents Q77.kp 1 N (cL (cK (cB (cA (cB (cB Q77.bd)))))) 0 (Q77.st0 gv0 x1 gv2) (roundK Q77.kp 1 0 L0 (Q77.k0 N K gv0)) = (Q77.b0 N (fun d0 => K (.agg [⟨.u8, 512, d0⟩]) [⟨false, .flat 512 (.ints .u8 gv0)⟩]) (fun x3 gv4 => xloop (xcode (E74 N) ents Q77.kp 1 N (cL (cK (cB (cB (cK (cA (cB (cB (cL (cK (cB (cA (cB (cB Q77.bd)))))))))))))) 2) Q77.kp 1 2 N (Q77.st1 gv0 x1 x3 gv4) (Q77.k1g N L0 (Q77.k0 N K gv0))) (fun x1 gv2 => L0 (Q77.st0 gv0 x1 gv2)) (fun ov9 => (Q77.k0 N K gv0) (.exit 0) (Q77.sx0_0 gv0 ov9)) x1 gv2) := by
  have h := Q77.b0_gen N K L0 (Q77.k0 N K gv0) gv0 x1 gv2
  rw [Q77.k0_mix] at h
  exact h
theorem Q77.a0_0_eq {ρ : Type} (N : Nat) (K : AV → Heap → Option ρ) (gv0 : Nat → Int) (ov9 : Nat → Int) :
    (Q77.k0 N K gv0) (.exit 0) (Q77.sx0_0 gv0 ov9) = (Q77.a0_0 N (fun d0 => K (.agg [⟨.u8, 512, d0⟩]) [⟨false, .flat 512 (.ints .u8 gv0)⟩]) ov9) := by kernel_rfl
theorem Q77.l2_eq {ρ : Type} (N : Nat) (K : AV → Heap → Option ρ) (L0 : St → Option ρ) (L1 : St → Option ρ) (gv0 : Nat → Int) (x1 : Int) (x3 : Int) :
    ∀ (m : Nat) (x5 : Int) (gv6 : Nat → Int), xloop (xcode (E74 N) ents Q77.kp 1 N (cL (cK (cB (cB (cK (cA (cB (cB (cL (cK (cB (cB (cK (cA (cB (cB (cL (cK (cB (cA (cB (cB Q77.bd)))))))))))))))))))))) 4) Q77.kp 1 4 m (Q77.st2 gv0 x1 x3 x5 gv6) (Q77.k2g N L1 (Q77.k1g N L0 (Q77.k0 N K gv0))) = (Q77.l2 N (fun d0 => K (.agg [⟨.u8, 512, d0⟩]) [⟨false, .flat 512 (.ints .u8 gv0)⟩]) gv0 x1 x3 (fun ov7 => (Q77.k2g N L1 (Q77.k1g N L0 (Q77.k0 N K gv0))) (.exit 4) (Q77.sx2_0 gv0 x1 x3 ov7)) m x5 gv6) := by
  intro m
  induction m with
  | zero => intros; rfl
  | succ m ih =>
    intro x5 gv6
    refine (Q77.b2_eq N K L0 L1 (fun s => xloop (xcode (E74 N) ents Q77.kp 1 N (cL (cK (cB (cB (cK (cA (cB (cB (cL (cK (cB (cB (cK (cA (cB (cB (cL (cK (cB (cA (cB (cB Q77.bd)))))))))))))))))))))) 4) Q77.kp 1 4 m s (Q77.k2g N L1 (Q77.k1g N L0 (Q77.k0 N K gv0)))) gv0 x1 x3 x5 gv6).trans ?_
    simp only [ih]
    kernel_rfl
theorem Q77.l1_eq {ρ : Type} (N : Nat) (K : AV → Heap → Option ρ) (L0 : St → Option ρ) (gv0 : Nat → Int) (x1 : Int) :
    ∀ (m : Nat) (x3 : Int) (gv4 : Nat → Int), xloop (xcode (E74 N) ents Q77.kp 1 N (cL (cK (cB (cB (cK (cA (cB (cB (cL (cK (cB (cA (cB (cB Q77.bd)))))))))))))) 2) Q77.kp 1 2 m (Q77.st1 gv0 x1 x3 gv4) (Q77.k1g N L0 (Q77.k0 N K gv0)) = (Q77.l1 N (fun d0 => K (.agg [⟨.u8, 512, d0⟩]) [⟨false, .flat 512 (.ints .u8 gv0)⟩]) gv0 x1 (fun ov8 => (Q77.k1g N L0 (Q77.k0 N K gv0)) (.exit 2) (Q77.sx1_0 gv0 x1 ov8)) m x3 gv4) := by
  intro m
  induction m with
  | zero => intros; rfl
  | succ m ih =>
    intro x3 gv4
    refine (Q77.b1_eq N K L0 (fun s => xloop (xcode (E74 N) ents Q77.kp 1 N (cL (cK (cB (cB (cK (cA (cB (cB (cL (cK (cB (cA (cB (cB Q77.bd)))))))))))))) 2) Q77.kp 1 2 m s (Q77.k1g N L0 (Q77.k0 N K gv0))) gv0 x1 x3 gv4).trans ?_
    simp only [ih, Q77.l2_eq, Q77.a2_0_eq]
    kernel_rfl
theorem Q77.l0_eq {ρ : Type} (N : Nat) (K : AV → Heap → Option ρ) (gv0 : Nat → Int) :
    ∀ (m : Nat) (x1 : Int) (gv2 : Nat → Int), xloop (xcode (E74 N) ents Q77.kp 1 N (cL (cK (cB (cA (cB (cB Q77.bd)))))) 0) Q77.kp 1 0 m (Q77.st0 gv0 x1 gv2) (Q77.k0 N K gv0) = (Q77.l0 N (fun d0 => K (.agg [⟨.u8, 512, d0⟩]) [⟨false, .flat 512 (.ints .u8 gv0)⟩]) gv0 (fun ov9 => (Q77.k0 N K gv0) (.exit 0) (Q77.sx0_0 gv0 ov9)) m x1 gv2) := by
  intro m
  induction m with
  | zero => intros; rfl
  | succ m ih =>
    intro x1 gv2
    refine (Q77.b0_eq N K (fun s => xloop (xcode (E74 N) ents Q77.kp 1 N (cL (cK (cB (cA (cB (cB Q77.bd)))))) 0) Q77.kp 1 0 m s (Q77.k0 N K gv0)) gv0 x1 gv2).trans ?_
    simp only [ih, Q77.l1_eq, Q77.a1_0_eq]
    kernel_rfl
theorem Q77.s_eq {ρ : Type} (N : Nat) (K : AV → Heap → Option ρ) (gv0 : Nat → Int) :
    xbody (E74 N) ents Q77.kp N Try.f71 Q77.bd [.sptr [(0, 512)]] [⟨false, .flat 512 (.ints .u8 gv0)⟩] K = (Q77.s N (fun d0 => K (.agg [⟨.u8, 512, d0⟩]) [⟨false, .flat 512 (.ints .u8 gv0)⟩]) (fun x1 gv2 => xloop (xcode (E74 N) ents Q77.kp 1 N (cL (cK (cB (cA (cB (cB Q77.bd)))))) 0) Q77.kp 1 0 N (Q77.st0 gv0 x1 gv2) (Q77.k0 N K gv0))) := by kernel_rfl
theorem Q77.eq {ρ : Type} (N : Nat) (K : AV → Heap → Option ρ) (gv0 : Nat → Int) :
    xbody (E74 N) ents Q77.kp N Try.f71 Q77.bd [.sptr [(0, 512)]] [⟨false, .flat 512 (.ints .u8 gv0)⟩] K = (Q77 N (fun d0 => K (.agg [⟨.u8, 512, d0⟩]) [⟨false, .flat 512 (.ints .u8 gv0)⟩]) gv0) := by
  refine (Q77.s_eq N K gv0).trans ?_
  simp only [Q77.l0_eq, Q77.a0_0_eq]
  kernel_rfl
def Q77.en (N : Nat) (ρ : Type) : List AV → Heap → (AV → Heap → Option ρ) → Option ρ
  | [.sptr [(0, 512)]], [⟨false, .flat 512 (.ints .u8 gv0)⟩], K => (Q77 N (fun d0 => K (.agg [⟨.u8, 512, d0⟩]) [⟨false, .flat 512 (.ints .u8 gv0)⟩]) gv0)
  | _, _, _ => none
theorem Q77.en_ok (N : Nat) (hE : EnvOk (E74 N) ents) (ρ : Type) (args : List AV) (sh : Heap) (K : AV → Heap → Option ρ) (r : ρ) (h : Q77.en N ρ args sh K = some r) : ∃ v sh', K v sh' = some r ∧ FnOk (E74 N).P 71 args sh v sh' := by
  unfold Q77.en at h
  split at h
  · exact fn_ok hE (kp := Q77.kp) (N := N) Try.func71 (c := Q77.bd) (by kernel_rfl) ((Q77.eq N _ _).trans h)
  · cases h
def E75 (N : Nat) : Env := (E74 N).add 71 (Q77.en N)
theorem E75_ok (N : Nat) : EnvOk (E75 N) ents := Env.add_ok (E74_ok N) (Q77.en_ok N (E74_ok N))
def Q78.kp : Keeps := ⟨[(0, [0, 2, 3, 8], [], []), (2, [0, 2, 3, 4, 8, 11], [], []), (4, [0, 2, 3, 4, 5, 8, 11, 14], [], [])], [(0, [2, 3], [], []), (2, [0, 2, 3, 8], [], []), (4, [0, 2, 3, 4, 8, 11], [], [])], []⟩
def Q78.bd : Code := bodyOf Try.f72
def Q78.fin {ρ : Type} (N : Nat) (K : AV → Heap → Option ρ) (gv0 : Nat → Int) : XE → St → Option ρ := finK (E75 N) Q78.kp.fins Try.f72 [⟨false, .flat 512 (.ints .u8 gv0)⟩] K
def Q78.k0 {ρ : Type} (N : Nat) (K : AV → Heap → Option ρ) (gv0 : Nat → Int) : XE → St → Option ρ := (blockK Q78.kp 1 0 (seqK (xcode (E75 N) ents Q78.kp 1 N (cB (cB (cB Q78.bd))) 0) (Q78.fin N K gv0)))
theorem Q78.k0_mix {ρ : Type} (N : Nat) (K : AV → Heap → Option ρ) (gv0 : Nat → Int) : mixK (Q78.fin N K gv0 .ret) (Q78.k0 N K gv0) = (Q78.k0 N K gv0) := by
  funext e s; cases e <;> kernel_rfl
def Q78.st0 (gv0 : Nat → Int) (x1 : Int) (gv2 : Nat → Int) : St := ⟨sl 36 [(0, .sptr [(0, 512)]), (2, .sptr [(1, 512)]), (3, .sptr [(2, 512)]), (8, .int .i64 (x1))], [⟨false, .flat 512 (.ints .u8 gv0)⟩, ⟨true, .flat 512 (.ints .u8 (fun _ => 0))⟩, ⟨true, .flat 512 (.ints .u8 gv2)⟩]⟩
def Q78.sx0_0 (gv0 : Nat → Int) (ov9 : Nat → Int) : St := ⟨sl 36 [(2, .sptr [(1, 512)]), (3, .sptr [(2, 512)])], [⟨false, .flat 512 (.ints .u8 gv0)⟩, ⟨true, .flat 512 (.ints .u8 (fun _ => 0))⟩, ⟨true, .flat 512 (.ints .u8 ov9)⟩]⟩
def Q78.k1g {ρ : Type} (N : Nat) (L0 : St → Option ρ) (kv : XE → St → Option ρ) : XE → St → Option ρ := (blockK Q78.kp 1 2 (blockK Q78.kp 1 1 (seqK (xcode (E75 N) ents Q78.kp 1 N (cB (cB (cB (cL (cK (cB (cA (cB (cB Q78.bd))))))))) 0) (roundK Q78.kp 1 0 L0 kv))))
theorem Q78.k1_mix {ρ : Type} (N : Nat) (K : AV → Heap → Option ρ) (L0 : St → Option ρ) (gv0 : Nat → Int) : mixK (Q78.fin N K gv0 .ret) (Q78.k1g N L0 (Q78.k0 N K gv0)) = (Q78.k1g N L0 (Q78.k0 N K gv0)) := by
  funext e s; cases e <;> kernel_rfl
def Q78.st1 (gv0 : Nat → Int) (x1 : Int) (x3 : Int) (gv4 : Nat → Int) : St := ⟨sl 36 [(0, .sptr [(0, 512)]), (2, .sptr [(1, 512)]), (3, .sptr [(2, 512)]), (4, .int .i64 (x1)), (8, .int .i64 (x1)), (11, .int .i64 (x3))], [⟨false, .flat 512 (.ints .u8 gv0)⟩, ⟨true, .flat 512 (.ints .u8 (fun _ => 0))⟩, ⟨true, .flat 512 (.ints .u8 gv4)⟩]⟩
def Q78.sx1_0 (gv0 : Nat → Int) (x1 : Int) (ov8 : Nat → Int) : St := ⟨sl 36 [(0, .sptr [(0, 512)]), (2, .sptr [(1, 512)]), (3, .sptr [(2, 512)]), (8, .int .i64 (x1))], [⟨false, .flat 512 (.ints .u8 gv0)⟩, ⟨true, .flat 512 (.ints .u8 (fun _ => 0))⟩, ⟨true, .flat 512 (.ints .u8 ov8)⟩]⟩
def Q78.k2g {ρ : Type} (N : Nat) (L1 : St → Option ρ) (kv : XE → St → Option ρ) : XE → St → Option ρ := (blockK Q78.kp 1 4 (blockK Q78.kp 1 3 (seqK (xcode (E75 N) ents Q78.kp 1 N (cB (cB (cB (cL (cK (cB (cB (cK (cA (cB (cB (cL (cK (cB (cA (cB (cB Q78.bd))))))))))))))))) 2) (roundK Q78.kp 1 2 L1 kv))))
theorem Q78.k2_mix {ρ : Type} (N : Nat) (K : AV → Heap → Option ρ) (L0 : St → Option ρ) (L1 : St → Option ρ) (gv0 : Nat → Int) : mixK (Q78.fin N K gv0 .ret) (Q78.k2g N L1 (Q78.k1g N L0 (Q78.k0 N K gv0))) = (Q78.k2g N L1 (Q78.k1g N L0 (Q78.k0 N K gv0))) := by
  funext e s; cases e <;> kernel_rfl
def Q78.st2 (gv0 : Nat → Int) (x1 : Int) (x3 : Int) (x5 : Int) (gv6 : Nat → Int) : St := ⟨sl 36 [(0, .sptr [(0, 512)]), (2, .sptr [(1, 512)]), (3, .sptr [(2, 512)]), (4, .int .i64 (x1)), (5, .int .i64 (x3)), (8, .int .i64 (x1)), (11, .int .i64 (x3)), (14, .int .i64 (x5))], [⟨false, .flat 512 (.ints .u8 gv0)⟩, ⟨true, .flat 512 (.ints .u8 (fun _ => 0))⟩, ⟨true, .flat 512 (.ints .u8 gv6)⟩]⟩
def Q78.sx2_0 (gv0 : Nat → Int) (x1 : Int) (x3 : Int) (ov7 : Nat → Int) : St := ⟨sl 36 [(0, .sptr [(0, 512)]), (2, .sptr [(1, 512)]), (3, .sptr [(2, 512)]), (4, .int .i64 (x1)), (8, .int .i64 (x1)), (11, .int .i64 (x3))], [⟨false, .flat 512 (.ints .u8 gv0)⟩, ⟨true, .flat 512 (.ints .u8 (fun _ => 0))⟩, ⟨true, .flat 512 (.ints .u8 ov7)⟩]⟩
theorem Q78.b2_gen {ρ : Type} (N : Nat) (K : AV → Heap → Option ρ) (L2 : St → Option ρ) (kv : XE → St → Option ρ) (gv0 : Nat → Int) (x1 : Int) (x3 : Int) (x5 : Int) (gv6 : Nat → Int) :
    xcode (E75 N) ents Q78.kp 1 N (cL (cK (cB (cB (cK (cA (cB (cB (cL (cK (cB (cB (cK (cA (cB (cB (cL (cK (cB (cA (cB (cB Q78.bd)))))))))))))))))))))) 4 (Q78.st2 gv0 x1 x3 x5 gv6) (roundK Q78.kp 1 4 L2 (mixK (Q78.fin N K gv0 .ret) kv)) = (Q78.b2 N (fun d0 => K (.agg [⟨.u8, 512, d0⟩]) [⟨false, .flat 512 (.ints .u8 gv0)⟩]) (fun x5 gv6 => L2 (Q78.st2 gv0 x1 x3 x5 gv6)) (fun ov7 => kv (.exit 4) (Q78.sx2_0 gv0 x1 x3 ov7)) gv0 x1 x3 x5 gv6) := by kernel_rfl
theorem Q78.b2_eq {ρ : Type} (N : Nat) (K : AV → Heap → Option ρ) (L0 : St → Option ρ) (L1 : St → Option ρ) (L2 : St → Option ρ) (gv0 : Nat → Int) (x1 : Int) (x3 : Int) (x5 : Int) (gv6 : Nat → Int) :
    xcode (E75 N) ents Q78.kp 1 N (cL (cK (cB (cB (cK (cA (cB (cB (cL (cK (cB (cB (cK (cA (cB (cB (cL (cK (cB (cA (cB (cB Q78.bd)))))))))))))))))))))) 4 (Q78.st2 gv0 x1 x3 x5 gv6) (roundK Q78.kp 1 4 L2 (Q78.k2g N L1 (Q78.k1g N L0 (Q78.k0 N K gv0)))) = (Q78.b2 N (fun d0 => K (.agg [⟨.u8, 512, d0⟩]) [⟨false, .flat 512 (.ints .u8 gv0)⟩]) (fun x5 gv6 => L2 (Q78.st2 gv0 x1 x3 x5 gv6)) (fun ov7 => (Q78.k2g N L1 (Q78.k1g N L0 (Q78.k0 N K gv0))) (.exit 4) (Q78.sx2_0 gv0 x1 x3 ov7)) gv0 x1 x3 x5 gv6) := by
  have h := Q78.b2_gen N K L2 (Q78.k2g N L1 (Q78.k1g N L0 (Q78.k0 N K gv0))) gv0 x1 x3 x5 gv6
  rw [Q78.k2_mix] at h
  exact h
theorem Q78.a2_0_gen {ρ : Type} (N : Nat) (K : AV → Heap → Option ρ) (L1 : St → Option ρ) (kv : XE → St → Option ρ) (gv0 : Nat → Int) (x1 : Int) (x3 : Int) (ov7 : Nat → Int) :
    (Q78.k2g N L1 (mixK (Q78.fin N K gv0 .ret) kv)) (.exit 4) (Q78.sx2_0 gv0 x1 x3 ov7) = (Q78.a2_0 N (fun d0 => K (.agg [⟨.u8, 512, d0⟩]) [⟨false, .flat 512 (.ints .u8 gv0)⟩]) (fun x3 gv4 => L1 (Q78.st1 gv0 x1 x3 gv4)) (fun ov8 => kv (.exit 2) (Q78.sx1_0 gv0 x1 ov8)) x3 ov7) := by kernel_rfl
theorem Q78.a2_0_eq {ρ : Type} (N : Nat) (K : AV → Heap → Option ρ) (L0 : St → Option ρ) (L1 : St → Option ρ) (gv0 : Nat → Int) (x1 : Int) (x3 : Int) (ov7 : Nat → Int) :
    (Q78.k2g N L1 (Q78.k1g N L0 (Q78.k0 N K gv0))) (.exit 4) (Q78.sx2_0 gv0 x1 x3 ov7) = (Q78.a2_0 N (fun d0 => K (.agg [⟨.u8, 512, d0⟩]) [⟨false, .flat 512 (.ints .u8 gv0)⟩]) (fun x3 gv4 => L1 (Q78.st1 gv0 x1 x3 gv4)) (fun ov8 => (Q78.k1g N L0 (Q78.k0 N K gv0)) (.exit 2) (Q78.sx1_0 gv0 x1 ov8)) x3 ov7) := by
  have h := Q78.a2_0_gen N K L1 (Q78.k1g N L0 (Q78.k0 N K gv0)) gv0 x1 x3 ov7
  rw [Q78.k1_mix] at h
  exact h
theorem Q78.b1_gen {ρ : Type} (N : Nat) (K : AV → Heap → Option ρ) (L1 : St → Option ρ) (kv : XE → St → Option ρ) (gv0 : Nat → Int) (x1 : Int) (x3 : Int) (gv4 : Nat → Int) :
    xcode (E75 N) ents Q78.kp 1 N (cL (cK (cB (cB (cK (cA (cB (cB (cL (cK (cB (cA (cB (cB Q78.bd)))))))))))))) 2 (Q78.st1 gv0 x1 x3 gv4) (roundK Q78.kp 1 2 L1 (mixK (Q78.fin N K gv0 .ret) kv)) = (Q78.b1 N (fun d0 => K (.agg [⟨.u8, 512, d0⟩]) [⟨false, .flat 512 (.ints .u8 gv0)⟩]) (fun x5 gv6 => xloop (xcode (E75 N) ents Q78.kp 1 N (cL (cK (cB (cB (cK (cA (cB (cB (cL (cK (cB (cB (cK (cA (cB (cB (cL (cK (cB (cA (cB (cB Q78.bd)))))))))))))))))))))) 4) Q78.kp 1 4 N (Q78.st2 gv0 x1 x3 x5 gv6) (Q78.k2g N L1 (mixK (Q78.fin N K gv0 .ret) kv))) (fun x3 gv4 => L1 (Q78.st1 gv0 x1 x3 gv4)) (fun ov8 => kv (.exit 2) (Q78.sx1_0 gv0 x1 ov8)) x3 gv4) := by kernel_rfl
theorem Q78.b1_eq {ρ : Type} (N : Nat) (K : AV → Heap → Option ρ) (L0 : St → Option ρ) (L1 : St → Option ρ) (gv0 : Nat → Int) (x1 : Int) (x3 : Int) (gv4 : Nat → Int) :
    xcode (E75 N) ents Q78.kp 1 N (cL (cK (cB (cB (cK (cA (cB (cB (cL (cK (cB (cA (cB (cB Q78.bd)))))))))))))) 2 (Q78.st1 gv0 x1 x3 gv4) (roundK Q78.kp 1 2 L1 (Q78.k1g N L0 (Q78.k0 N K gv0))) = (Q78.b1 N (fun d0 => K (.agg [⟨.u8, 512, d0⟩]) [⟨false, .flat 512 (.ints .u8 gv0)⟩]) (fun x5 gv6 => xloop (xcode (E75 N) ents Q78.kp 1 N (cL (cK (cB (cB (cK (cA (cB (cB (cL (cK (cB (cB (cK (cA (cB (cB (cL (cK (cB (cA (cB (cB Q78.bd)))))))))))))))))))))) 4) Q78.kp 1 4 N (Q78.st2 gv0 x1 x3 x5 gv6) (Q78.k2g N L1 (Q78.k1g N L0 (Q78.k0 N K gv0)))) (fun x3 gv4 => L1 (Q78.st1 gv0 x1 x3 gv4)) (fun ov8 => (Q78.k1g N L0 (Q78.k0 N K gv0)) (.exit 2) (Q78.sx1_0 gv0 x1 ov8)) x3 gv4) := by
  have h := Q78.b1_gen N K L1 (Q78.k1g N L0 (Q78.k0 N K gv0)) gv0 x1 x3 gv4
  rw [Q78.k1_mix] at h
  exact h
theorem Q78.a1_0_gen {ρ : Type} (N : Nat) (K : AV → Heap → Option ρ) (L0 : St → Option ρ) (kv : XE → St → Option ρ) (gv0 : Nat → Int) (x1 : Int) (ov8 : Nat → Int) :
    (Q78.k1g N L0 (mixK (Q78.fin N K gv0 .ret) kv)) (.exit 2) (Q78.sx1_0 gv0 x1 ov8) = (Q78.a1_0 N (fun d0 => K (.agg [⟨.u8, 512, d0⟩]) [⟨false, .flat 512 (.ints .u8 gv0)⟩]) (fun x1 gv2 => L0 (Q78.st0 gv0 x1 gv2)) (fun ov9 => kv (.exit 0) (Q78.sx0_0 gv0 ov9)) x1 ov8) := by kernel_rfl
theorem Q78.a1_0_eq {ρ : Type} (N : Nat) (K : AV → Heap → Option ρ) (L0 : St → Option ρ) (gv0 : Nat → Int) (x1 : Int) (ov8 : Nat → Int) :
    (Q78.k1g N L0 (Q78.k0 N K gv0)) (.exit 2) (Q78.sx1_0 gv0 x1 ov8) = (Q78.a1_0 N (fun d0 => K (.agg [⟨.u8, 512, d0⟩]) [⟨false, .flat 512 (.ints .u8 gv0)⟩]) (fun x1 gv2 => L0 (Q78.st0 gv0 x1 gv2)) (fun ov9 => (Q78.k0 N K gv0) (.exit 0) (Q78.sx0_0 gv0 ov9)) x1 ov8) := by
  have h := Q78.a1_0_gen N K L0 (Q78.k0 N K gv0) gv0 x1 ov8
  rw [Q78.k0_mix] at h
  exact h
theorem Q78.b0_gen {ρ : Type} (N : Nat) (K : AV → Heap → Option ρ) (L0 : St → Option ρ) (kv : XE → St → Option ρ) (gv0 : Nat → Int) (x1 : Int) (gv2 : Nat → Int) :
    xcode (E75 N) ents Q78.kp 1 N (cL (cK (cB (cA (cB (cB Q78.bd)))))) 0 (Q78.st0 gv0 x1 gv2) (roundK Q78.kp 1 0 L0 (mixK (Q78.fin N K gv0 .ret) kv)) = (Q78.b0 N (fun d0 => K (.agg [⟨.u8, 512, d0⟩]) [⟨false, .flat 512 (.ints .u8 gv0)⟩]) (fun x3 gv4 => xloop (xcode (E75 N) ents Q78.kp 1 N (cL (cK (cB (cB (cK (cA (cB (cB (cL (cK (cB (cA (cB (cB Q78.bd)))))))))))))) 2) Q78.kp 1 2 N (Q78.st1 gv0 x1 x3 gv4) (Q78.k1g N L0 (mixK (Q78.fin N K gv0 .ret) kv))) (fun x1 gv2 => L0 (Q78.st0 gv0 x1 gv2)) (fun ov9 => kv (.exit 0) (Q78.sx0_0 gv0 ov9)) x1 gv2) := by kernel_rfl
theorem Q78.b0_eq {ρ : Type} (N : Nat) (K : AV → Heap → Option ρ) (L0 : St → Option ρ) (gv0 : Nat → Int) (x1 : Int) (gv2 : Nat → Int) :
    xcode (E75 N) ents Q78.kp 1 N (cL (cK (cB (cA (cB (cB Q78.bd)))))) 0 (Q78.st0 gv0 x1 gv2) (roundK Q78.kp 1 0 L0 (Q78.k0 N K gv0)) = (Q78.b0 N (fun d0 => K (.agg [⟨.u8, 512, d0⟩]) [⟨false, .flat 512 (.ints .u8 gv0)⟩]) (fun x3 gv4 => xloop (xcode (E75 N) ents Q78.kp 1 N (cL (cK (cB (cB (cK (cA (cB (cB (cL (cK (cB (cA (cB (cB Q78.bd)))))))))))))) 2) Q78.kp 1 2 N (Q78.st1 gv0 x1 x3 gv4) (Q78.k1g N L0 (Q78.k0 N K gv0))) (fun x1 gv2 => L0 (Q78.st0 gv0 x1 gv2)) (fun ov9 => (Q78.k0 N K gv0) (.exit 0) (Q78.sx0_0 gv0 ov9)) x1 gv2) := by
  have h := Q78.b0_gen N K L0 (Q78.k0 N K gv0) gv0 x1 gv2
  rw [Q78.k0_mix] at h
  exact h
theorem Q78.a0_0_eq {ρ : Type} (N : Nat) (K : AV → Heap → Option ρ) (gv0 : Nat → Int) (ov9 : Nat → Int) :
    (Q78.k0 N K gv0) (.exit 0) (Q78.sx0_0 gv0 ov9) = (Q78.a0_0 N (fun d0 => K (.agg [⟨.u8, 512, d0⟩]) [⟨false, .flat 512 (.ints .u8 gv0)⟩]) ov9) := by kernel_rfl
theorem Q78.l2_eq {ρ : Type} (N : Nat) (K : AV → Heap → Option ρ) (L0 : St → Option ρ) (L1 : St → Option ρ) (gv0 : Nat → Int) (x1 : Int) (x3 : Int) :
    ∀ (m : Nat) (x5 : Int) (gv6 : Nat → Int), xloop (xcode (E75 N) ents Q78.kp 1 N (cL (cK (cB (cB (cK (cA (cB (cB (cL (cK (cB (cB (cK (cA (cB (cB (cL (cK (cB (cA (cB (cB Q78.bd)))))))))))))))))))))) 4) Q78.kp 1 4 m (Q78.st2 gv0 x1 x3 x5 gv6) (Q78.k2g N L1 (Q78.k1g N L0 (Q78.k0 N K gv0))) = (Q78.l2 N (fun d0 => K (.agg [⟨.u8, 512, d0⟩]) [⟨false, .flat 512 (.ints .u8 gv0)⟩]) gv0 x1 x3 (fun ov7 => (Q78.k2g N L1 (Q78.k1g N L0 (Q78.k0 N K gv0))) (.exit 4) (Q78.sx2_0 gv0 x1 x3 ov7)) m x5 gv6) := by
  intro m
  induction m with
  | zero => intros; rfl
  | succ m ih =>
    intro x5 gv6
    refine (Q78.b2_eq N K L0 L1 (fun s => xloop (xcode (E75 N) ents Q78.kp 1 N (cL (cK (cB (cB (cK (cA (cB (cB (cL (cK (cB (cB (cK (cA (cB (cB (cL (cK (cB (cA (cB (cB Q78.bd)))))))))))))))))))))) 4) Q78.kp 1 4 m s (Q78.k2g N L1 (Q78.k1g N L0 (Q78.k0 N K gv0)))) gv0 x1 x3 x5 gv6).trans ?_
    simp only [ih]
    kernel_rfl
theorem Q78.l1_eq {ρ : Type} (N : Nat) (K : AV → Heap → Option ρ) (L0 : St → Option ρ) (gv0 : Nat → Int) (x1 : Int) :
    ∀ (m : Nat) (x3 : Int) (gv4 : Nat → Int), xloop (xcode (E75 N) ents Q78.kp 1 N (cL (cK (cB (cB (cK (cA (cB (cB (cL (cK (cB (cA (cB (cB Q78.bd)))))))))))))) 2) Q78.kp 1 2 m (Q78.st1 gv0 x1 x3 gv4) (Q78.k1g N L0 (Q78.k0 N K gv0)) = (Q78.l1 N (fun d0 => K (.agg [⟨.u8, 512, d0⟩]) [⟨false, .flat 512 (.ints .u8 gv0)⟩]) gv0 x1 (fun ov8 => (Q78.k1g N L0 (Q78.k0 N K gv0)) (.exit 2) (Q78.sx1_0 gv0 x1 ov8)) m x3 gv4) := by
  intro m
  induction m with
  | zero => intros; rfl
  | succ m ih =>
    intro x3 gv4
    refine (Q78.b1_eq N K L0 (fun s => xloop (xcode (E75 N) ents Q78.kp 1 N (cL (cK (cB (cB (cK (cA (cB (cB (cL (cK (cB (cA (cB (cB Q78.bd)))))))))))))) 2) Q78.kp 1 2 m s (Q78.k1g N L0 (Q78.k0 N K gv0))) gv0 x1 x3 gv4).trans ?_
    simp only [ih, Q78.l2_eq, Q78.a2_0_eq]
    kernel_rfl
theorem Q78.l0_eq {ρ : Type} (N : Nat) (K : AV → Heap → Option ρ) (gv0 : Nat → Int) :
    ∀ (m : Nat) (x1 : Int) (gv2 : Nat → Int), xloop (xcode (E75 N) ents Q78.kp 1 N (cL (cK (cB (cA (cB (cB Q78.bd)))))) 0) Q78.kp 1 0 m (Q78.st0 gv0 x1 gv2) (Q78.k0 N K gv0) = (Q78.l0 N (fun d0 => K (.agg [⟨.u8, 512, d0⟩]) [⟨false, .flat 512 (.ints .u8 gv0)⟩]) gv0 (fun ov9 => (Q78.k0 N K gv0) (.exit 0) (Q78.sx0_0 gv0 ov9)) m x1 gv2) := by
  intro m
  induction m with
  | zero => intros; rfl
  | succ m ih =>
    intro x1 gv2
    refine (Q78.b0_eq N K (fun s => xloop (xcode (E75 N) ents Q78.kp 1 N (cL (cK (cB (cA (cB (cB Q78.bd)))))) 0) Q78.kp 1 0 m s (Q78.k0 N K gv0)) gv0 x1 gv2).trans ?_
    simp only [ih, Q78.l1_eq, Q78.a1_0_eq]
    kernel_rfl
theorem Q78.s_eq {ρ : Type} (N : Nat) (K : AV → Heap → Option ρ) (gv0 : Nat → Int) :
    xbody (E75 N) ents Q78.kp N Try.f72 Q78.bd [.sptr [(0, 512)]] [⟨false, .flat 512 (.ints .u8 gv0)⟩] K = (Q78.s N (fun d0 => K (.agg [⟨.u8, 512, d0⟩]) [⟨false, .flat 512 (.ints .u8 gv0)⟩]) (fun x1 gv2 => xloop (xcode (E75 N) ents Q78.kp 1 N (cL (cK (cB (cA (cB (cB Q78.bd)))))) 0) Q78.kp 1 0 N (Q78.st0 gv0 x1 gv2) (Q78.k0 N K gv0))) := by kernel_rfl
theorem Q78.eq {ρ : Type} (N : Nat) (K : AV → Heap → Option ρ) (gv0 : Nat → Int) :
    xbody (E75 N) ents Q78.kp N Try.f72 Q78.bd [.sptr [(0, 512)]] [⟨false, .flat 512 (.ints .u8 gv0)⟩] K = (Q78 N (fun d0 => K (.agg [⟨.u8, 512, d0⟩]) [⟨false, .flat 512 (.ints .u8 gv0)⟩]) gv0) := by
  refine (Q78.s_eq N K gv0).trans ?_
  simp only [Q78.l0_eq, Q78.a0_0_eq]
  kernel_rfl
def Q78.en (N : Nat) (ρ : Type) : List AV → Heap → (AV → Heap → Option ρ) → Option ρ
  | [.sptr [(0, 512)]], [⟨false, .flat 512 (.ints .u8 gv0)⟩], K => (Q78 N (fun d0 => K (.agg [⟨.u8, 512, d0⟩]) [⟨false, .flat 512 (.ints .u8 gv0)⟩]) gv0)
  | _, _, _ => none
theorem Q78.en_ok (N : Nat) (hE : EnvOk (E75 N) ents) (ρ : Type) (args : List AV) (sh : Heap) (K : AV → Heap → Option ρ) (r : ρ) (h : Q78.en N ρ args sh K = some r) : ∃ v sh', K v sh' = some r ∧ FnOk (E75 N).P 72 args sh v sh' := by
  unfold Q78.en at h
  split at h
  · exact fn_ok hE (kp := Q78.kp) (N := N) Try.func72 (c := Q78.bd) (by kernel_rfl) ((Q78.eq N _ _).trans h)
  · cases h
def E76 (N : Nat) : Env := (E75 N).add 72 (Q78.en N)
theorem E76_ok (N : Nat) : EnvOk (E76 N) ents := Env.add_ok (E75_ok N) (Q78.en_ok N (E75_ok N))
def Q79.kp : Keeps := ⟨[(0, [0, 2, 3, 7], [], []), (2, [0, 2, 3, 4, 7, 10], [], [])], [(0, [2, 3], [], []), (2, [0, 2, 3, 7], [], [])], []⟩
def Q79.bd : Code := bodyOf Try.f73
def Q79.fin {ρ : Type} (N : Nat) (K : AV → Heap → Option ρ) (gv0 : Nat → Int) : XE → St → Option ρ := finK (E76 N) Q79.kp.fins Try.f73 [⟨false, .flat 64 (.ints .u8 gv0)⟩] K
def Q79.k0 {ρ : Type} (N : Nat) (K : AV → Heap → Option ρ) (gv0 : Nat → Int) : XE → St → Option ρ := (blockK Q79.kp 1 0 (seqK (xcode (E76 N) ents Q79.kp 1 N (cB (cB (cB Q79.bd))) 0) (Q79.fin N K gv0)))
theorem Q79.k0_mix {ρ : Type} (N : Nat) (K : AV → Heap → Option ρ) (gv0 : Nat → Int) : mixK (Q79.fin N K gv0 .ret) (Q79.k0 N K gv0) = (Q79.k0 N K gv0) := by
  funext e s; cases e <;> kernel_rfl
def Q79.st0 (gv0 : Nat → Int) (x1 : Int) (gv2 : Nat → Int) : St := ⟨sl 27 [(0, .sptr [(0, 64)]), (2, .sptr [(1, 64)]), (3, .sptr [(2, 64)]), (7, .int .i64 (x1))], [⟨false, .flat 64 (.ints .u8 gv0)⟩, ⟨true, .flat 64 (.ints .u8 (fun _ => 0))⟩, ⟨true, .flat 64 (.ints .u8 gv2)⟩]⟩
def Q79.sx0_0 (gv0 : Nat → Int) (ov6 : Nat → Int) : St := ⟨sl 27 [(2, .sptr [(1, 64)]), (3, .sptr [(2, 64)])], [⟨false, .flat 64 (.ints .u8 gv0)⟩, ⟨true, .flat 64 (.ints .u8 (fun _ => 0))⟩, ⟨true, .flat 64 (.ints .u8 ov6)⟩]⟩
def Q79.k1g {ρ : Type} (N : Nat) (L0 : St → Option ρ) (kv : XE → St → Option ρ) : XE → St → Option ρ := (blockK Q79.kp 1 2 (blockK Q79.kp 1 1 (seqK (xcode (E76 N) ents Q79.kp 1 N (cB (cB (cB (cL (cK (cB (cA (cB (cB Q79.bd))))))))) 0) (roundK Q79.kp 1 0 L0 kv))))
theorem Q79.k1_mix {ρ : Type} (N : Nat) (K : AV → Heap → Option ρ) (L0 : St → Option ρ) (gv0 : Nat → Int) : mixK (Q79.fin N K gv0 .ret) (Q79.k1g N L0 (Q79.k0 N K gv0)) = (Q79.k1g N L0 (Q79.k0 N K gv0)) := by
  funext e s; cases e <;> kernel_rfl
def Q79.st1 (gv0 : Nat → Int) (x1 : Int) (x3 : Int) (gv4 : Nat → Int) : St := ⟨sl 27 [(0, .sptr [(0, 64)]), (2, .sptr [(1, 64)]), (3, .sptr [(2, 64)]), (4, .int .i64 (x1)), (7, .int .i64 (x1)), (10, .int .i64 (x3))], [⟨false, .flat 64 (.ints .u8 gv0)⟩, ⟨true, .flat 64 (.ints .u8 (fun _ => 0))⟩, ⟨true, .flat 64 (.ints .u8 gv4)⟩]⟩
def Q79.sx1_0 (gv0 : Nat → Int) (x1 : Int) (ov5 : Nat → Int) : St := ⟨sl 27 [(0, .sptr [(0, 64)]), (2, .sptr [(1, 64)]), (3, .sptr [(2, 64)]), (7, .int .i64 (x1))], [⟨false, .flat 64 (.ints .u8 gv0)⟩, ⟨true, .flat 64 (.ints .u8 (fun _ => 0))⟩, ⟨true, .flat 64 (.ints .u8 ov5)⟩]⟩
theorem Q79.b1_gen {ρ : Type} (N : Nat) (K : AV → Heap → Option ρ) (L1 : St → Option ρ) (kv : XE → St → Option ρ) (gv0 : Nat → Int) (x1 : Int) (x3 : Int) (gv4 : Nat → Int) :
    xcode (E76 N) ents Q79.kp 1 N (cL (cK (cB (cB (cK (cA (cB (cB (cL (cK (cB (cA (cB (cB Q79.bd)))))))))))))) 2 (Q79.st1 gv0 x1 x3 gv4) (roundK Q79.kp 1 2 L1 (mixK (Q79.fin N K gv0 .ret) kv)) = (Q79.b1 N (fun d0 => K (.agg [⟨.u8, 64, d0⟩]) [⟨false, .flat 64 (.ints .u8 gv0)⟩]) (fun x3 gv4 => L1 (Q79.st1 gv0 x1 x3 gv4)) (fun ov5 => kv (.exit 2) (Q79.sx1_0 gv0 x1 ov5)) gv0 x1 x3 gv4) := by kernel_rfl
theorem Q79.b1_eq {ρ : Type} (N : Nat) (K : AV → Heap → Option ρ) (L0 : St → Option ρ) (L1 : St → Option ρ) (gv0 : Nat → Int) (x1 : Int) (x3 : Int) (gv4 : Nat → Int) :
    xcode (E76 N) ents Q79.kp 1 N (cL (cK (cB (cB (cK (cA (cB (cB (cL (cK (cB (cA (cB (cB Q79.bd)))))))))))))) 2 (Q79.st1 gv0 x1 x3 gv4) (roundK Q79.kp 1 2 L1 (Q79.k1g N L0 (Q79.k0 N K gv0))) = (Q79.b1 N (fun d0 => K (.agg [⟨.u8, 64, d0⟩]) [⟨false, .flat 64 (.ints .u8 gv0)⟩]) (fun x3 gv4 => L1 (Q79.st1 gv0 x1 x3 gv4)) (fun ov5 => (Q79.k1g N L0 (Q79.k0 N K gv0)) (.exit 2) (Q79.sx1_0 gv0 x1 ov5)) gv0 x1 x3 gv4) := by
  have h := Q79.b1_gen N K L1 (Q79.k1g N L0 (Q79.k0 N K gv0)) gv0 x1 x3 gv4
  rw [Q79.k1_mix] at h
  exact h
theorem Q79.a1_0_gen {ρ : Type} (N : Nat) (K : AV → Heap → Option ρ) (L0 : St → Option ρ) (kv : XE → St → Option ρ) (gv0 : Nat → Int) (x1 : Int) (ov5 : Nat → Int) :
    (Q79.k1g N L0 (mixK (Q79.fin N K gv0 .ret) kv)) (.exit 2) (Q79.sx1_0 gv0 x1 ov5) = (Q79.a1_0 N (fun d0 => K (.agg [⟨.u8, 64, d0⟩]) [⟨false, .flat 64 (.ints .u8 gv0)⟩]) (fun x1 gv2 => L0 (Q79.st0 gv0 x1 gv2)) (fun ov6 => kv (.exit 0) (Q79.sx0_0 gv0 ov6)) x1 ov5) := by kernel_rfl
theorem Q79.a1_0_eq {ρ : Type} (N : Nat) (K : AV → Heap → Option ρ) (L0 : St → Option ρ) (gv0 : Nat → Int) (x1 : Int) (ov5 : Nat → Int) :
    (Q79.k1g N L0 (Q79.k0 N K gv0)) (.exit 2) (Q79.sx1_0 gv0 x1 ov5) = (Q79.a1_0 N (fun d0 => K (.agg [⟨.u8, 64, d0⟩]) [⟨false, .flat 64 (.ints .u8 gv0)⟩]) (fun x1 gv2 => L0 (Q79.st0 gv0 x1 gv2)) (fun ov6 => (Q79.k0 N K gv0) (.exit 0) (Q79.sx0_0 gv0 ov6)) x1 ov5) := by
  have h := Q79.a1_0_gen N K L0 (Q79.k0 N K gv0) gv0 x1 ov5
  rw [Q79.k0_mix] at h
  exact h
theorem Q79.b0_gen {ρ : Type} (N : Nat) (K : AV → Heap → Option ρ) (L0 : St → Option ρ) (kv : XE → St → Option ρ) (gv0 : Nat → Int) (x1 : Int) (gv2 : Nat → Int) :
    xcode (E76 N) ents Q79.kp 1 N (cL (cK (cB (cA (cB (cB Q79.bd)))))) 0 (Q79.st0 gv0 x1 gv2) (roundK Q79.kp 1 0 L0 (mixK (Q79.fin N K gv0 .ret) kv)) = (Q79.b0 N (fun d0 => K (.agg [⟨.u8, 64, d0⟩]) [⟨false, .flat 64 (.ints .u8 gv0)⟩]) (fun x3 gv4 => xloop (xcode (E76 N) ents Q79.kp 1 N (cL (cK (cB (cB (cK (cA (cB (cB (cL (cK (cB (cA (cB (cB Q79.bd)))))))))))))) 2) Q79.kp 1 2 N (Q79.st1 gv0 x1 x3 gv4) (Q79.k1g N L0 (mixK (Q79.fin N K gv0 .ret) kv))) (fun x1 gv2 => L0 (Q79.st0 gv0 x1 gv2)) (fun ov6 => kv (.exit 0) (Q79.sx0_0 gv0 ov6)) x1 gv2) := by kernel_rfl
theorem Q79.b0_eq {ρ : Type} (N : Nat) (K : AV → Heap → Option ρ) (L0 : St → Option ρ) (gv0 : Nat → Int) (x1 : Int) (gv2 : Nat → Int) :
    xcode (E76 N) ents Q79.kp 1 N (cL (cK (cB (cA (cB (cB Q79.bd)))))) 0 (Q79.st0 gv0 x1 gv2) (roundK Q79.kp 1 0 L0 (Q79.k0 N K gv0)) = (Q79.b0 N (fun d0 => K (.agg [⟨.u8, 64, d0⟩]) [⟨false, .flat 64 (.ints .u8 gv0)⟩]) (fun x3 gv4 => xloop (xcode (E76 N) ents Q79.kp 1 N (cL (cK (cB (cB (cK (cA (cB (cB (cL (cK (cB (cA (cB (cB Q79.bd)))))))))))))) 2) Q79.kp 1 2 N (Q79.st1 gv0 x1 x3 gv4) (Q79.k1g N L0 (Q79.k0 N K gv0))) (fun x1 gv2 => L0 (Q79.st0 gv0 x1 gv2)) (fun ov6 => (Q79.k0 N K gv0) (.exit 0) (Q79.sx0_0 gv0 ov6)) x1 gv2) := by
  have h := Q79.b0_gen N K L0 (Q79.k0 N K gv0) gv0 x1 gv2
  rw [Q79.k0_mix] at h
  exact h
theorem Q79.a0_0_eq {ρ : Type} (N : Nat) (K : AV → Heap → Option ρ) (gv0 : Nat → Int) (ov6 : Nat → Int) :
    (Q79.k0 N K gv0) (.exit 0) (Q79.sx0_0 gv0 ov6) = (Q79.a0_0 N (fun d0 => K (.agg [⟨.u8, 64, d0⟩]) [⟨false, .flat 64 (.ints .u8 gv0)⟩]) ov6) := by kernel_rfl
theorem Q79.l1_eq {ρ : Type} (N : Nat) (K : AV → Heap → Option ρ) (L0 : St → Option ρ) (gv0 : Nat → Int) (x1 : Int) :
    ∀ (m : Nat) (x3 : Int) (gv4 : Nat → Int), xloop (xcode (E76 N) ents Q79.kp 1 N (cL (cK (cB (cB (cK (cA (cB (cB (cL (cK (cB (cA (cB (cB Q79.bd)))))))))))))) 2) Q79.kp 1 2 m (Q79.st1 gv0 x1 x3 gv4) (Q79.k1g N L0 (Q79.k0 N K gv0)) = (Q79.l1 N (fun d0 => K (.agg [⟨.u8, 64, d0⟩]) [⟨false, .flat 64 (.ints .u8 gv0)⟩]) gv0 x1 (fun ov5 => (Q79.k1g N L0 (Q79.k0 N K gv0)) (.exit 2) (Q79.sx1_0 gv0 x1 ov5)) m x3 gv4) := by
  intro m
  induction m with
  | zero => intros; rfl
  | succ m ih =>
    intro x3 gv4
    refine (Q79.b1_eq N K L0 (fun s => xloop (xcode (E76 N) ents Q79.kp 1 N (cL (cK (cB (cB (cK (cA (cB (cB (cL (cK (cB (cA (cB (cB Q79.bd)))))))))))))) 2) Q79.kp 1 2 m s (Q79.k1g N L0 (Q79.k0 N K gv0))) gv0 x1 x3 gv4).trans ?_
    simp only [ih]
    kernel_rfl
theorem Q79.l0_eq {ρ : Type} (N : Nat) (K : AV → Heap → Option ρ) (gv0 : Nat → Int) :
    ∀ (m : Nat) (x1 : Int) (gv2 : Nat → Int), xloop (xcode (E76 N) ents Q79.kp 1 N (cL (cK (cB (cA (cB (cB Q79.bd)))))) 0) Q79.kp 1 0 m (Q79.st0 gv0 x1 gv2) (Q79.k0 N K gv0) = (Q79.l0 N (fun d0 => K (.agg [⟨.u8, 64, d0⟩]) [⟨false, .flat 64 (.ints .u8 gv0)⟩]) gv0 (fun ov6 => (Q79.k0 N K gv0) (.exit 0) (Q79.sx0_0 gv0 ov6)) m x1 gv2) := by
  intro m
  induction m with
  | zero => intros; rfl
  | succ m ih =>
    intro x1 gv2
    refine (Q79.b0_eq N K (fun s => xloop (xcode (E76 N) ents Q79.kp 1 N (cL (cK (cB (cA (cB (cB Q79.bd)))))) 0) Q79.kp 1 0 m s (Q79.k0 N K gv0)) gv0 x1 gv2).trans ?_
    simp only [ih, Q79.l1_eq, Q79.a1_0_eq]
    kernel_rfl
theorem Q79.s_eq {ρ : Type} (N : Nat) (K : AV → Heap → Option ρ) (gv0 : Nat → Int) :
    xbody (E76 N) ents Q79.kp N Try.f73 Q79.bd [.sptr [(0, 64)]] [⟨false, .flat 64 (.ints .u8 gv0)⟩] K = (Q79.s N (fun d0 => K (.agg [⟨.u8, 64, d0⟩]) [⟨false, .flat 64 (.ints .u8 gv0)⟩]) (fun x1 gv2 => xloop (xcode (E76 N) ents Q79.kp 1 N (cL (cK (cB (cA (cB (cB Q79.bd)))))) 0) Q79.kp 1 0 N (Q79.st0 gv0 x1 gv2) (Q79.k0 N K gv0))) := by kernel_rfl
theorem Q79.eq {ρ : Type} (N : Nat) (K : AV → Heap → Option ρ) (gv0 : Nat → Int) :
    xbody (E76 N) ents Q79.kp N Try.f73 Q79.bd [.sptr [(0, 64)]] [⟨false, .flat 64 (.ints .u8 gv0)⟩] K = (Q79 N (fun d0 => K (.agg [⟨.u8, 64, d0⟩]) [⟨false, .flat 64 (.ints .u8 gv0)⟩]) gv0) := by
  refine (Q79.s_eq N K gv0).trans ?_
  simp only [Q79.l0_eq, Q79.a0_0_eq]
  kernel_rfl
def Q79.en (N : Nat) (ρ : Type) : List AV → Heap → (AV → Heap → Option ρ) → Option ρ
  | [.sptr [(0, 64)]], [⟨false, .flat 64 (.ints .u8 gv0)⟩], K => (Q79 N (fun d0 => K (.agg [⟨.u8, 64, d0⟩]) [⟨false, .flat 64 (.ints .u8 gv0)⟩]) gv0)
  | _, _, _ => none
theorem Q79.en_ok (N : Nat) (hE : EnvOk (E76 N) ents) (ρ : Type) (args : List AV) (sh : Heap) (K : AV → Heap → Option ρ) (r : ρ) (h : Q79.en N ρ args sh K = some r) : ∃ v sh', K v sh' = some r ∧ FnOk (E76 N).P 73 args sh v sh' := by
  unfold Q79.en at h
  split at h
  · exact fn_ok hE (kp := Q79.kp) (N := N) Try.func73 (c := Q79.bd) (by kernel_rfl) ((Q79.eq N _ _).trans h)
  · cases h
def E77 (N : Nat) : Env := (E76 N).add 73 (Q79.en N)
theorem E77_ok (N : Nat) : EnvOk (E77 N) ents := Env.add_ok (E76_ok N) (Q79.en_ok N (E76_ok N))
def Q80.kp : Keeps := ⟨[], [], []⟩
def Q80.bd : Code := bodyOf Try.f45
def Q80.fin {ρ : Type} (N : Nat) (K : AV → Heap → Option ρ) (gv0 : Nat → Int) (gv1 : Nat → Int) : XE → St → Option ρ := finK (E77 N) Q80.kp.fins Try.f45 [⟨false, .flat 2 (.ints .i64 gv0)⟩, ⟨false, .flat 1104 (.ints .u8 gv1)⟩] K
theorem Q80.eq {ρ : Type} (N : Nat) (K : AV → Heap → Option ρ) (gv0 : Nat → Int) (gv1 : Nat → Int) :
    xbody (E77 N) ents Q80.kp N Try.f45 Q80.bd [.sptr [(0, 2), (1, 1104)]] [⟨false, .flat 2 (.ints .i64 gv0)⟩, ⟨false, .flat 1104 (.ints .u8 gv1)⟩] K = (Q80 N (fun d0 d1 => K (.agg [⟨.i64, 2, d0⟩, ⟨.u8, 1104, d1⟩]) [⟨false, .flat 2 (.ints .i64 gv0)⟩, ⟨false, .flat 1104 (.ints .u8 gv1)⟩]) gv0 gv1) := by kernel_rfl
def Q80.en (N : Nat) (ρ : Type) : List AV → Heap → (AV → Heap → Option ρ) → Option ρ
  | [.sptr [(0, 2), (1, 1104)]], [⟨false, .flat 2 (.ints .i64 gv0)⟩, ⟨false, .flat 1104 (.ints .u8 gv1)⟩], K => (Q80 N (fun d0 d1 => K (.agg [⟨.i64, 2, d0⟩, ⟨.u8, 1104, d1⟩]) [⟨false, .flat 2 (.ints .i64 gv0)⟩, ⟨false, .flat 1104 (.ints .u8 gv1)⟩]) gv0 gv1)
  | _, _, _ => none
theorem Q80.en_ok (N : Nat) (hE : EnvOk (E77 N) ents) (ρ : Type) (args : List AV) (sh : Heap) (K : AV → Heap → Option ρ) (r : ρ) (h : Q80.en N ρ args sh K = some r) : ∃ v sh', K v sh' = some r ∧ FnOk (E77 N).P 45 args sh v sh' := by
  unfold Q80.en at h
  split at h
  · exact fn_ok hE (kp := Q80.kp) (N := N) Try.func45 (c := Q80.bd) (by kernel_rfl) ((Q80.eq N _ _ _).trans h)
  · cases h
def E78 (N : Nat) : Env := (E77 N).add 45 (Q80.en N)
theorem E78_ok (N : Nat) : EnvOk (E78 N) ents := Env.add_ok (E77_ok N) (Q80.en_ok N (E77_ok N))
def Q81.kp : Keeps := ⟨[], [], []⟩
def Q81.bd : Code := bodyOf Try.f18
def Q81.fin {ρ : Type} (N : Nat) (K : AV → Heap → Option ρ) (gv2 : Nat) (gv3 : Nat) (gv4 : Nat → Nat) (gv5 : Nat → Nat) (gv6 : Nat → Int) : XE → St → Option ρ := finK (E78 N) Q81.kp.fins Try.f18 [⟨false, .hdr 1 gv2 gv3 gv4 gv5 none⟩, ⟨false, .flat 0 (.ints .i64 gv6)⟩] K
theorem Q81.eq {ρ : Type} (N : Nat) (K : AV → Heap → Option ρ) (p0 : Int) (table1 : Nat) (gv2 : Nat) (gv3 : Nat) (gv4 : Nat → Nat) (gv5 : Nat → Nat) (gv6 : Nat → Int) :
    xbody (E78 N) ents Q81.kp N Try.f18 Q81.bd [.int .i64 (p0), .slice true 0 0 table1 .unk 1] [⟨false, .hdr 1 gv2 gv3 gv4 gv5 none⟩, ⟨false, .flat 0 (.ints .i64 gv6)⟩] K = (Q81 N (fun d0 d1 d2 => K (.tup [.agg [⟨.i64, 2, d0⟩, ⟨.u8, 1104, d1⟩], .int .i64 (d2)]) [⟨false, .hdr 1 gv2 gv3 gv4 gv5 none⟩, ⟨false, .flat 0 (.ints .i64 gv6)⟩]) p0 table1 gv2 gv3 gv4 gv5 gv6) := by kernel_rfl
def Q81.en (N : Nat) (ρ : Type) : List AV → Heap → (AV → Heap → Option ρ) → Option ρ
  | [.int .i64 (p0), .slice true 0 0 table1 .unk 1], [⟨false, .hdr 1 gv2 gv3 gv4 gv5 none⟩, ⟨false, .flat 0 (.ints .i64 gv6)⟩], K => (Q81 N (fun d0 d1 d2 => K (.tup [.agg [⟨.i64, 2, d0⟩, ⟨.u8, 1104, d1⟩], .int .i64 (d2)]) [⟨false, .hdr 1 gv2 gv3 gv4 gv5 none⟩, ⟨false, .flat 0 (.ints .i64 gv6)⟩]) p0 table1 gv2 gv3 gv4 gv5 gv6)
  | _, _, _ => none
theorem Q81.en_ok (N : Nat) (hE : EnvOk (E78 N) ents) (ρ : Type) (args : List AV) (sh : Heap) (K : AV → Heap → Option ρ) (r : ρ) (h : Q81.en N ρ args sh K = some r) : ∃ v sh', K v sh' = some r ∧ FnOk (E78 N).P 18 args sh v sh' := by
  unfold Q81.en at h
  split at h
  · exact fn_ok hE (kp := Q81.kp) (N := N) Try.func18 (c := Q81.bd) (by kernel_rfl) ((Q81.eq N _ _ _ _ _ _ _ _).trans h)
  · cases h
def E79 (N : Nat) : Env := (E78 N).add 18 (Q81.en N)
theorem E79_ok (N : Nat) : EnvOk (E79 N) ents := Env.add_ok (E78_ok N) (Q81.en_ok N (E78_ok N))
def Q82.kp : Keeps := ⟨[], [], []⟩
def Q82.bd : Code := bodyOf Try.f5
def Q82.fin {ρ : Type} (N : Nat) (K : AV → Heap → Option ρ) : XE → St → Option ρ := finK (E79 N) Q82.kp.fins Try.f5 [] K
theorem Q82.eq {ρ : Type} (N : Nat) (K : AV → Heap → Option ρ) (name0 : ByteArray) (p1 : Int) :
    xbody (E79 N) ents Q82.kp N Try.f5 Q82.bd [.str (name0), .int .i64 (p1)] [] K = (Q82 N (fun d0 d1 d2 => K (.tup [.agg [⟨.i64, 2, d0⟩, ⟨.u8, 1104, d1⟩], .int .i64 (d2)]) []) name0 p1) := by kernel_rfl
def Q82.en (N : Nat) (ρ : Type) : List AV → Heap → (AV → Heap → Option ρ) → Option ρ
  | [.str (name0), .int .i64 (p1)], [], K => (Q82 N (fun d0 d1 d2 => K (.tup [.agg [⟨.i64, 2, d0⟩, ⟨.u8, 1104, d1⟩], .int .i64 (d2)]) []) name0 p1)
  | _, _, _ => none
theorem Q82.en_ok (N : Nat) (hE : EnvOk (E79 N) ents) (ρ : Type) (args : List AV) (sh : Heap) (K : AV → Heap → Option ρ) (r : ρ) (h : Q82.en N ρ args sh K = some r) : ∃ v sh', K v sh' = some r ∧ FnOk (E79 N).P 5 args sh v sh' := by
  unfold Q82.en at h
  split at h
  · exact fn_ok hE (kp := Q82.kp) (N := N) Try.func5 (c := Q82.bd) (by kernel_rfl) ((Q82.eq N _ _ _).trans h)
  · cases h
def E80 (N : Nat) : Env := (E79 N).add 5 (Q82.en N)
theorem E80_ok (N : Nat) : EnvOk (E80 N) ents := Env.add_ok (E79_ok N) (Q82.en_ok N (E79_ok N))
def Q83.kp : Keeps := ⟨[(0, [2, 3, 5], [], [])], [(0, [], [], [])], []⟩
def Q83.bd : Code := bodyOf Try.f20
def Q83.fin {ρ : Type} (N : Nat) (K : AV → Heap → Option ρ) : XE → St → Option ρ := finK (E80 N) Q83.kp.fins Try.f20 [] K
def Q83.k0 {ρ : Type} (N : Nat) (K : AV → Heap → Option ρ) : XE → St → Option ρ := (blockK Q83.kp 0 0 (seqK (xcode (E80 N) ents Q83.kp 0 N (cB (cB Q83.bd)) 0) (Q83.fin N K)))
theorem Q83.k0_mix {ρ : Type} (N : Nat) (K : AV → Heap → Option ρ) : mixK (Q83.fin N K .ret) (Q83.k0 N K) = (Q83.k0 N K) := by
  funext e s; cases e <;> kernel_rfl
def Q83.st0 (av0 : Nat → Int) (bv1 : Nat → Int) (i2 : Int) : St := ⟨sl 17 [(2, .sptr [(0, 8)]), (3, .sptr [(1, 8)]), (5, .int .i64 (i2))], [⟨true, .flat 8 (.ints .u8 av0)⟩, ⟨true, .flat 8 (.ints .u8 bv1)⟩]⟩
def Q83.sx0_0 : St := ⟨sl 17 [], []⟩
theorem Q83.b0_gen {ρ : Type} (N : Nat) (K : AV → Heap → Option ρ) (L0 : St → Option ρ) (kv : XE → St → Option ρ) (av0 : Nat → Int) (bv1 : Nat → Int) (i2 : Int) :
    xcode (E80 N) ents Q83.kp 0 N (cL (cK (cB (cA (cB Q83.bd))))) 0 (Q83.st0 av0 bv1 i2) (roundK Q83.kp 0 0 L0 (mixK (Q83.fin N K .ret) kv)) = (Q83.b0 N (fun d0 => K (.bool (d0)) []) (fun i2 => L0 (Q83.st0 av0 bv1 i2)) (kv (.exit 0) (Q83.sx0_0)) av0 bv1 i2) := by kernel_rfl
theorem Q83.b0_eq {ρ : Type} (N : Nat) (K : AV → Heap → Option ρ) (L0 : St → Option ρ) (av0 : Nat → Int) (bv1 : Nat → Int) (i2 : Int) :
    xcode (E80 N) ents Q83.kp 0 N (cL (cK (cB (cA (cB Q83.bd))))) 0 (Q83.st0 av0 bv1 i2) (roundK Q83.kp 0 0 L0 (Q83.k0 N K)) = (Q83.b0 N (fun d0 => K (.bool (d0)) []) (fun i2 => L0 (Q83.st0 av0 bv1 i2)) ((Q83.k0 N K) (.exit 0) (Q83.sx0_0)) av0 bv1 i2) := by
  have h := Q83.b0_gen N K L0 (Q83.k0 N K) av0 bv1 i2
  rw [Q83.k0_mix] at h
  exact h
theorem Q83.a0_0_eq {ρ : Type} (N : Nat) (K : AV → Heap → Option ρ) :
    (Q83.k0 N K) (.exit 0) (Q83.sx0_0) = (Q83.a0_0 N (fun d0 => K (.bool (d0)) [])) := by kernel_rfl
theorem Q83.l0_eq {ρ : Type} (N : Nat) (K : AV → Heap → Option ρ) (av0 : Nat → Int) (bv1 : Nat → Int) :
    ∀ (m : Nat) (i2 : Int), xloop (xcode (E80 N) ents Q83.kp 0 N (cL (cK (cB (cA (cB Q83.bd))))) 0) Q83.kp 0 0 m (Q83.st0 av0 bv1 i2) (Q83.k0 N K) = (Q83.l0 N (fun d0 => K (.bool (d0)) []) av0 bv1 ((Q83.k0 N K) (.exit 0) (Q83.sx0_0)) m i2) := by
  intro m
  induction m with
  | zero => intros; rfl
  | succ m ih =>
    intro i2
    refine (Q83.b0_eq N K (fun s => xloop (xcode (E80 N) ents Q83.kp 0 N (cL (cK (cB (cA (cB Q83.bd))))) 0) Q83.kp 0 0 m s (Q83.k0 N K)) av0 bv1 i2).trans ?_
    simp only [ih]
    kernel_rfl
theorem Q83.s_eq {ρ : Type} (N : Nat) (K : AV → Heap → Option ρ) (av0 : Nat → Int) (bv1 : Nat → Int) :
    xbody (E80 N) ents Q83.kp N Try.f20 Q83.bd [.agg [⟨.u8, 8, av0⟩], .agg [⟨.u8, 8, bv1⟩]] [] K = (Q83.s N (fun d0 => K (.bool (d0)) []) (fun i2 => xloop (xcode (E80 N) ents Q83.kp 0 N (cL (cK (cB (cA (cB Q83.bd))))) 0) Q83.kp 0 0 N (Q83.st0 av0 bv1 i2) (Q83.k0 N K))) := by kernel_rfl
theorem Q83.eq {ρ : Type} (N : Nat) (K : AV → Heap → Option ρ) (av0 : Nat → Int) (bv1 : Nat → Int) :
    xbody (E80 N) ents Q83.kp N Try.f20 Q83.bd [.agg [⟨.u8, 8, av0⟩], .agg [⟨.u8, 8, bv1⟩]] [] K = (Q83 N (fun d0 => K (.bool (d0)) []) av0 bv1) := by
  refine (Q83.s_eq N K av0 bv1).trans ?_
  simp only [Q83.l0_eq, Q83.a0_0_eq]
  kernel_rfl
def Q83.en (N : Nat) (ρ : Type) : List AV → Heap → (AV → Heap → Option ρ) → Option ρ
  | [.agg [⟨.u8, 8, av0⟩], .agg [⟨.u8, 8, bv1⟩]], [], K => (Q83 N (fun d0 => K (.bool (d0)) []) av0 bv1)
  | _, _, _ => none
theorem Q83.en_ok (N : Nat) (hE : EnvOk (E80 N) ents) (ρ : Type) (args : List AV) (sh : Heap) (K : AV → Heap → Option ρ) (r : ρ) (h : Q83.en N ρ args sh K = some r) : ∃ v sh', K v sh' = some r ∧ FnOk (E80 N).P 20 args sh v sh' := by
  unfold Q83.en at h
  split at h
  · exact fn_ok hE (kp := Q83.kp) (N := N) Try.func20 (c := Q83.bd) (by kernel_rfl) ((Q83.eq N _ _ _).trans h)
  · cases h
def E81 (N : Nat) : Env := (E80 N).add 20 (Q83.en N)
theorem E81_ok (N : Nat) : EnvOk (E81 N) ents := Env.add_ok (E80_ok N) (Q83.en_ok N (E80_ok N))
def Q84.kp : Keeps := ⟨[(0, [2, 3, 5], [], [])], [(0, [], [], [])], []⟩
def Q84.bd : Code := bodyOf Try.f22
def Q84.fin {ρ : Type} (N : Nat) (K : AV → Heap → Option ρ) : XE → St → Option ρ := finK (E81 N) Q84.kp.fins Try.f22 [] K
def Q84.k0 {ρ : Type} (N : Nat) (K : AV → Heap → Option ρ) : XE → St → Option ρ := (blockK Q84.kp 0 0 (seqK (xcode (E81 N) ents Q84.kp 0 N (cB (cB Q84.bd)) 0) (Q84.fin N K)))
theorem Q84.k0_mix {ρ : Type} (N : Nat) (K : AV → Heap → Option ρ) : mixK (Q84.fin N K .ret) (Q84.k0 N K) = (Q84.k0 N K) := by
  funext e s; cases e <;> kernel_rfl
def Q84.st0 (av0 : Nat → Int) (bv1 : Nat → Int) (i2 : Int) : St := ⟨sl 18 [(2, .sptr [(0, 64)]), (3, .sptr [(1, 64)]), (5, .int .i64 (i2))], [⟨true, .flat 64 (.ints .u8 av0)⟩, ⟨true, .flat 64 (.ints .u8 bv1)⟩]⟩
def Q84.sx0_0 : St := ⟨sl 18 [], []⟩
theorem Q84.b0_gen {ρ : Type} (N : Nat) (K : AV → Heap → Option ρ) (L0 : St → Option ρ) (kv : XE → St → Option ρ) (av0 : Nat → Int) (bv1 : Nat → Int) (i2 : Int) :
    xcode (E81 N) ents Q84.kp 0 N (cL (cK (cB (cA (cB Q84.bd))))) 0 (Q84.st0 av0 bv1 i2) (roundK Q84.kp 0 0 L0 (mixK (Q84.fin N K .ret) kv)) = (Q84.b0 N (fun d0 => K (.bool (d0)) []) (fun i2 => L0 (Q84.st0 av0 bv1 i2)) (kv (.exit 0) (Q84.sx0_0)) av0 bv1 i2) := by kernel_rfl
theorem Q84.b0_eq {ρ : Type} (N : Nat) (K : AV → Heap → Option ρ) (L0 : St → Option ρ) (av0 : Nat → Int) (bv1 : Nat → Int) (i2 : Int) :
    xcode (E81 N) ents Q84.kp 0 N (cL (cK (cB (cA (cB Q84.bd))))) 0 (Q84.st0 av0 bv1 i2) (roundK Q84.kp 0 0 L0 (Q84.k0 N K)) = (Q84.b0 N (fun d0 => K (.bool (d0)) []) (fun i2 => L0 (Q84.st0 av0 bv1 i2)) ((Q84.k0 N K) (.exit 0) (Q84.sx0_0)) av0 bv1 i2) := by
  have h := Q84.b0_gen N K L0 (Q84.k0 N K) av0 bv1 i2
  rw [Q84.k0_mix] at h
  exact h
theorem Q84.a0_0_eq {ρ : Type} (N : Nat) (K : AV → Heap → Option ρ) :
    (Q84.k0 N K) (.exit 0) (Q84.sx0_0) = (Q84.a0_0 N (fun d0 => K (.bool (d0)) [])) := by kernel_rfl
theorem Q84.l0_eq {ρ : Type} (N : Nat) (K : AV → Heap → Option ρ) (av0 : Nat → Int) (bv1 : Nat → Int) :
    ∀ (m : Nat) (i2 : Int), xloop (xcode (E81 N) ents Q84.kp 0 N (cL (cK (cB (cA (cB Q84.bd))))) 0) Q84.kp 0 0 m (Q84.st0 av0 bv1 i2) (Q84.k0 N K) = (Q84.l0 N (fun d0 => K (.bool (d0)) []) av0 bv1 ((Q84.k0 N K) (.exit 0) (Q84.sx0_0)) m i2) := by
  intro m
  induction m with
  | zero => intros; rfl
  | succ m ih =>
    intro i2
    refine (Q84.b0_eq N K (fun s => xloop (xcode (E81 N) ents Q84.kp 0 N (cL (cK (cB (cA (cB Q84.bd))))) 0) Q84.kp 0 0 m s (Q84.k0 N K)) av0 bv1 i2).trans ?_
    simp only [ih]
    kernel_rfl
theorem Q84.s_eq {ρ : Type} (N : Nat) (K : AV → Heap → Option ρ) (av0 : Nat → Int) (bv1 : Nat → Int) :
    xbody (E81 N) ents Q84.kp N Try.f22 Q84.bd [.agg [⟨.u8, 64, av0⟩], .agg [⟨.u8, 64, bv1⟩]] [] K = (Q84.s N (fun d0 => K (.bool (d0)) []) (fun i2 => xloop (xcode (E81 N) ents Q84.kp 0 N (cL (cK (cB (cA (cB Q84.bd))))) 0) Q84.kp 0 0 N (Q84.st0 av0 bv1 i2) (Q84.k0 N K))) := by kernel_rfl
theorem Q84.eq {ρ : Type} (N : Nat) (K : AV → Heap → Option ρ) (av0 : Nat → Int) (bv1 : Nat → Int) :
    xbody (E81 N) ents Q84.kp N Try.f22 Q84.bd [.agg [⟨.u8, 64, av0⟩], .agg [⟨.u8, 64, bv1⟩]] [] K = (Q84 N (fun d0 => K (.bool (d0)) []) av0 bv1) := by
  refine (Q84.s_eq N K av0 bv1).trans ?_
  simp only [Q84.l0_eq, Q84.a0_0_eq]
  kernel_rfl
def Q84.en (N : Nat) (ρ : Type) : List AV → Heap → (AV → Heap → Option ρ) → Option ρ
  | [.agg [⟨.u8, 64, av0⟩], .agg [⟨.u8, 64, bv1⟩]], [], K => (Q84 N (fun d0 => K (.bool (d0)) []) av0 bv1)
  | _, _, _ => none
theorem Q84.en_ok (N : Nat) (hE : EnvOk (E81 N) ents) (ρ : Type) (args : List AV) (sh : Heap) (K : AV → Heap → Option ρ) (r : ρ) (h : Q84.en N ρ args sh K = some r) : ∃ v sh', K v sh' = some r ∧ FnOk (E81 N).P 22 args sh v sh' := by
  unfold Q84.en at h
  split at h
  · exact fn_ok hE (kp := Q84.kp) (N := N) Try.func22 (c := Q84.bd) (by kernel_rfl) ((Q84.eq N _ _ _).trans h)
  · cases h
def E82 (N : Nat) : Env := (E81 N).add 22 (Q84.en N)
theorem E82_ok (N : Nat) : EnvOk (E82 N) ents := Env.add_ok (E81_ok N) (Q84.en_ok N (E81_ok N))
def Q85.kp : Keeps := ⟨[(0, [2, 3, 5], [], [])], [(0, [], [], [])], []⟩
def Q85.bd : Code := bodyOf Try.f21
def Q85.fin {ρ : Type} (N : Nat) (K : AV → Heap → Option ρ) : XE → St → Option ρ := finK (E82 N) Q85.kp.fins Try.f21 [] K
def Q85.k0 {ρ : Type} (N : Nat) (K : AV → Heap → Option ρ) : XE → St → Option ρ := (blockK Q85.kp 0 0 (seqK (xcode (E82 N) ents Q85.kp 0 N (cB (cB Q85.bd)) 0) (Q85.fin N K)))
theorem Q85.k0_mix {ρ : Type} (N : Nat) (K : AV → Heap → Option ρ) : mixK (Q85.fin N K .ret) (Q85.k0 N K) = (Q85.k0 N K) := by
  funext e s; cases e <;> kernel_rfl
def Q85.st0 (av0 : Nat → Int) (bv1 : Nat → Int) (i2 : Int) : St := ⟨sl 18 [(2, .sptr [(0, 512)]), (3, .sptr [(1, 512)]), (5, .int .i64 (i2))], [⟨true, .flat 512 (.ints .u8 av0)⟩, ⟨true, .flat 512 (.ints .u8 bv1)⟩]⟩
def Q85.sx0_0 : St := ⟨sl 18 [], []⟩
theorem Q85.b0_gen {ρ : Type} (N : Nat) (K : AV → Heap → Option ρ) (L0 : St → Option ρ) (kv : XE → St → Option ρ) (av0 : Nat → Int) (bv1 : Nat → Int) (i2 : Int) :
    xcode (E82 N) ents Q85.kp 0 N (cL (cK (cB (cA (cB Q85.bd))))) 0 (Q85.st0 av0 bv1 i2) (roundK Q85.kp 0 0 L0 (mixK (Q85.fin N K .ret) kv)) = (Q85.b0 N (fun d0 => K (.bool (d0)) []) (fun i2 => L0 (Q85.st0 av0 bv1 i2)) (kv (.exit 0) (Q85.sx0_0)) av0 bv1 i2) := by kernel_rfl
theorem Q85.b0_eq {ρ : Type} (N : Nat) (K : AV → Heap → Option ρ) (L0 : St → Option ρ) (av0 : Nat → Int) (bv1 : Nat → Int) (i2 : Int) :
    xcode (E82 N) ents Q85.kp 0 N (cL (cK (cB (cA (cB Q85.bd))))) 0 (Q85.st0 av0 bv1 i2) (roundK Q85.kp 0 0 L0 (Q85.k0 N K)) = (Q85.b0 N (fun d0 => K (.bool (d0)) []) (fun i2 => L0 (Q85.st0 av0 bv1 i2)) ((Q85.k0 N K) (.exit 0) (Q85.sx0_0)) av0 bv1 i2) := by
  have h := Q85.b0_gen N K L0 (Q85.k0 N K) av0 bv1 i2
  rw [Q85.k0_mix] at h
  exact h
theorem Q85.a0_0_eq {ρ : Type} (N : Nat) (K : AV → Heap → Option ρ) :
    (Q85.k0 N K) (.exit 0) (Q85.sx0_0) = (Q85.a0_0 N (fun d0 => K (.bool (d0)) [])) := by kernel_rfl
theorem Q85.l0_eq {ρ : Type} (N : Nat) (K : AV → Heap → Option ρ) (av0 : Nat → Int) (bv1 : Nat → Int) :
    ∀ (m : Nat) (i2 : Int), xloop (xcode (E82 N) ents Q85.kp 0 N (cL (cK (cB (cA (cB Q85.bd))))) 0) Q85.kp 0 0 m (Q85.st0 av0 bv1 i2) (Q85.k0 N K) = (Q85.l0 N (fun d0 => K (.bool (d0)) []) av0 bv1 ((Q85.k0 N K) (.exit 0) (Q85.sx0_0)) m i2) := by
  intro m
  induction m with
  | zero => intros; rfl
  | succ m ih =>
    intro i2
    refine (Q85.b0_eq N K (fun s => xloop (xcode (E82 N) ents Q85.kp 0 N (cL (cK (cB (cA (cB Q85.bd))))) 0) Q85.kp 0 0 m s (Q85.k0 N K)) av0 bv1 i2).trans ?_
    simp only [ih]
    kernel_rfl
theorem Q85.s_eq {ρ : Type} (N : Nat) (K : AV → Heap → Option ρ) (av0 : Nat → Int) (bv1 : Nat → Int) :
    xbody (E82 N) ents Q85.kp N Try.f21 Q85.bd [.agg [⟨.u8, 512, av0⟩], .agg [⟨.u8, 512, bv1⟩]] [] K = (Q85.s N (fun d0 => K (.bool (d0)) []) (fun i2 => xloop (xcode (E82 N) ents Q85.kp 0 N (cL (cK (cB (cA (cB Q85.bd))))) 0) Q85.kp 0 0 N (Q85.st0 av0 bv1 i2) (Q85.k0 N K))) := by kernel_rfl
theorem Q85.eq {ρ : Type} (N : Nat) (K : AV → Heap → Option ρ) (av0 : Nat → Int) (bv1 : Nat → Int) :
    xbody (E82 N) ents Q85.kp N Try.f21 Q85.bd [.agg [⟨.u8, 512, av0⟩], .agg [⟨.u8, 512, bv1⟩]] [] K = (Q85 N (fun d0 => K (.bool (d0)) []) av0 bv1) := by
  refine (Q85.s_eq N K av0 bv1).trans ?_
  simp only [Q85.l0_eq, Q85.a0_0_eq]
  kernel_rfl
def Q85.en (N : Nat) (ρ : Type) : List AV → Heap → (AV → Heap → Option ρ) → Option ρ
  | [.agg [⟨.u8, 512, av0⟩], .agg [⟨.u8, 512, bv1⟩]], [], K => (Q85 N (fun d0 => K (.bool (d0)) []) av0 bv1)
  | _, _, _ => none
theorem Q85.en_ok (N : Nat) (hE : EnvOk (E82 N) ents) (ρ : Type) (args : List AV) (sh : Heap) (K : AV → Heap → Option ρ) (r : ρ) (h : Q85.en N ρ args sh K = some r) : ∃ v sh', K v sh' = some r ∧ FnOk (E82 N).P 21 args sh v sh' := by
  unfold Q85.en at h
  split at h
  · exact fn_ok hE (kp := Q85.kp) (N := N) Try.func21 (c := Q85.bd) (by kernel_rfl) ((Q85.eq N _ _ _).trans h)
  · cases h
def E83 (N : Nat) : Env := (E82 N).add 21 (Q85.en N)
theorem E83_ok (N : Nat) : EnvOk (E83 N) ents := Env.add_ok (E82_ok N) (Q85.en_ok N (E82_ok N))
def Q86.kp : Keeps := ⟨[], [], []⟩
def Q86.bd : Code := bodyOf Try.f6
def Q86.fin {ρ : Type} (N : Nat) (K : AV → Heap → Option ρ) : XE → St → Option ρ := finK (E83 N) Q86.kp.fins Try.f6 [] K
theorem Q86.eq {ρ : Type} (N : Nat) (K : AV → Heap → Option ρ) (av0 : Nat → Int) (av1 : Nat → Int) (bv2 : Nat → Int) (bv3 : Nat → Int) :
    xbody (E83 N) ents Q86.kp N Try.f6 Q86.bd [.agg [⟨.i64, 2, av0⟩, ⟨.u8, 1104, av1⟩], .agg [⟨.i64, 2, bv2⟩, ⟨.u8, 1104, bv3⟩]] [] K = (Q86 N (fun d0 => K (.bool (d0)) []) av0 av1 bv2 bv3) := by kernel_rfl
def Q86.en (N : Nat) (ρ : Type) : List AV → Heap → (AV → Heap → Option ρ) → Option ρ
  | [.agg [⟨.i64, 2, av0⟩, ⟨.u8, 1104, av1⟩], .agg [⟨.i64, 2, bv2⟩, ⟨.u8, 1104, bv3⟩]], [], K => (Q86 N (fun d0 => K (.bool (d0)) []) av0 av1 bv2 bv3)
  | _, _, _ => none
theorem Q86.en_ok (N : Nat) (hE : EnvOk (E83 N) ents) (ρ : Type) (args : List AV) (sh : Heap) (K : AV → Heap → Option ρ) (r : ρ) (h : Q86.en N ρ args sh K = some r) : ∃ v sh', K v sh' = some r ∧ FnOk (E83 N).P 6 args sh v sh' := by
  unfold Q86.en at h
  split at h
  · exact fn_ok hE (kp := Q86.kp) (N := N) Try.func6 (c := Q86.bd) (by kernel_rfl) ((Q86.eq N _ _ _ _ _).trans h)
  · cases h
def E84 (N : Nat) : Env := (E83 N).add 6 (Q86.en N)
theorem E84_ok (N : Nat) : EnvOk (E84 N) ents := Env.add_ok (E83_ok N) (Q86.en_ok N (E83_ok N))
def Q87.kp : Keeps := ⟨[], [], []⟩
def Q87.bd : Code := bodyOf Try.f3
def Q87.fin {ρ : Type} (N : Nat) (K : AV → Heap → Option ρ) : XE → St → Option ρ := finK (E84 N) Q87.kp.fins Try.f3 [] K
theorem Q87.eq {ρ : Type} (N : Nat) (K : AV → Heap → Option ρ) (aName0 : ByteArray) (aP1 : Int) :
    xbody (E84 N) ents Q87.kp N Try.f3 Q87.bd [.str (aName0), .int .i64 (aP1)] [] K = (Q87 N (fun d0 => K (.bool (d0)) []) aName0 aP1) := by kernel_rfl
def Q87.en (N : Nat) (ρ : Type) : List AV → Heap → (AV → Heap → Option ρ) → Option ρ
  | [.str (aName0), .int .i64 (aP1)], [], K => (Q87 N (fun d0 => K (.bool (d0)) []) aName0 aP1)
  | _, _, _ => none
theorem Q87.en_ok (N : Nat) (hE : EnvOk (E84 N) ents) (ρ : Type) (args : List AV) (sh : Heap) (K : AV → Heap → Option ρ) (r : ρ) (h : Q87.en N ρ args sh K = some r) : ∃ v sh', K v sh' = some r ∧ FnOk (E84 N).P 3 args sh v sh' := by
  unfold Q87.en at h
  split at h
  · exact fn_ok hE (kp := Q87.kp) (N := N) Try.func3 (c := Q87.bd) (by kernel_rfl) ((Q87.eq N _ _ _).trans h)
  · cases h
def E85 (N : Nat) : Env := (E84 N).add 3 (Q87.en N)
theorem E85_ok (N : Nat) : EnvOk (E85 N) ents := Env.add_ok (E84_ok N) (Q87.en_ok N (E84_ok N))
end
end Go.Proofs.Ytlehklooibbmcaa.H
