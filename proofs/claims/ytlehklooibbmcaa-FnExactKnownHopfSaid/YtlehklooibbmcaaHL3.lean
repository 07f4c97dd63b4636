import Derived.Test.YtlehklooibbmcaaHL2
namespace Go.Proofs.Ytlehklooibbmcaa.H
noncomputable section
set_option linter.unusedVariables false
set_option linter.unusedSimpArgs false
open Go Go.RowKit Go.Proofs.Ytlehklooibbmcaa.Hy
set_option maxRecDepth 100000
def Q35.kp : Keeps := ⟨[(0, [0, 1, 4, 5, 6, 17, 18], [], []), (2, [0, 1, 4, 5, 6, 7, 17, 18, 21, 22], [], []), (4, [0, 1, 4, 5, 6, 7, 9, 10, 17, 18], [], [])], [(0, [4, 5], [], []), (2, [0, 1, 4, 5, 6, 7, 17, 18], [], []), (4, [0, 1, 4, 5, 6, 7, 17, 18], [], [])], []⟩
def Q35.bd : Code := bodyOf Try.f37
def Q35.fin {ρ : Type} (N : Nat) (K : AV → Heap → Option ρ) : XE → St → Option ρ := finK (E35 N) Q35.kp.fins Try.f37 [] K
def Q35.k0 {ρ : Type} (N : Nat) (K : AV → Heap → Option ρ) : XE → St → Option ρ := (blockK Q35.kp 0 0 (seqK (xcode (E35 N) ents Q35.kp 0 N (cB (cB (cB (cB Q35.bd)))) 0) (Q35.fin N K)))
theorem Q35.k0_mix {ρ : Type} (N : Nat) (K : AV → Heap → Option ρ) : mixK (Q35.fin N K .ret) (Q35.k0 N K) = (Q35.k0 N K) := by
  funext e s; cases e <;> kernel_rfl
def Q35.st0 (p0 : Int) (k1 : Int) (rv4 : Nat → Int) (x5 : Int) (gv6 : Nat → Int) : St := ⟨sl 93 [(0, .int .i64 (p0)), (1, .int .i64 (k1)), (4, .sptr [(0, 2), (1, 1104)]), (5, .sptr [(2, 2), (3, 1104)]), (6, .sptr [(4, 2)]), (17, .int .i64 (p0)), (18, .int .i64 (x5))], [⟨true, .flat 2 (.ints .i64 (fun _ => 0))⟩, ⟨true, .flat 1104 (.ints .u8 (fun _ => 0))⟩, ⟨true, .flat 2 (.ints .i64 (upd (upd (fun _ => 0) 0 p0) 1 p0))⟩, ⟨true, .flat 1104 (.ints .u8 gv6)⟩, ⟨true, .flat 2 (.ints .i64 rv4)⟩]⟩
def Q35.sx0_0 (p0 : Int) (ov20 : Nat → Int) : St := ⟨sl 93 [(4, .sptr [(0, 2), (1, 1104)]), (5, .sptr [(2, 2), (3, 1104)])], [⟨true, .flat 2 (.ints .i64 (fun _ => 0))⟩, ⟨true, .flat 1104 (.ints .u8 (fun _ => 0))⟩, ⟨true, .flat 2 (.ints .i64 (upd (upd (fun _ => 0) 0 p0) 1 p0))⟩, ⟨true, .flat 1104 (.ints .u8 ov20)⟩]⟩
def Q35.k1g {ρ : Type} (N : Nat) (L0 : St → Option ρ) (kv : XE → St → Option ρ) : XE → St → Option ρ := (blockK Q35.kp 0 2 (seqK (xcode (E35 N) ents Q35.kp 0 N (cB (cB (cK (cA (cB (cB (cL (cK (cB (cA (cB (cB (cB Q35.bd))))))))))))) 1) (blockK Q35.kp 0 1 (seqK (xcode (E35 N) ents Q35.kp 0 N (cB (cB (cB (cL (cK (cB (cA (cB (cB (cB Q35.bd)))))))))) 0) (roundK Q35.kp 0 0 L0 kv)))))
theorem Q35.k1_mix {ρ : Type} (N : Nat) (K : AV → Heap → Option ρ) (L0 : St → Option ρ) : mixK (Q35.fin N K .ret) (Q35.k1g N L0 (Q35.k0 N K)) = (Q35.k1g N L0 (Q35.k0 N K)) := by
  funext e s; cases e <;> kernel_rfl
def Q35.st1 (p0 : Int) (k1 : Int) (rv4 : Nat → Int) (x5 : Int) (x7 : Int) (gv8 : Nat → Int) : St := ⟨sl 93 [(0, .int .i64 (p0)), (1, .int .i64 (k1)), (4, .sptr [(0, 2), (1, 1104)]), (5, .sptr [(2, 2), (3, 1104)]), (6, .sptr [(4, 2)]), (7, .int .i64 (x5)), (17, .int .i64 (p0)), (18, .int .i64 (x5)), (21, .int .i64 (p0)), (22, .int .i64 (x7))], [⟨true, .flat 2 (.ints .i64 (fun _ => 0))⟩, ⟨true, .flat 1104 (.ints .u8 (fun _ => 0))⟩, ⟨true, .flat 2 (.ints .i64 (upd (upd (fun _ => 0) 0 p0) 1 p0))⟩, ⟨true, .flat 1104 (.ints .u8 gv8)⟩, ⟨true, .flat 2 (.ints .i64 rv4)⟩]⟩
def Q35.sx1_0 (p0 : Int) (k1 : Int) (rv4 : Nat → Int) (x5 : Int) (ov12 : Nat → Int) : St := ⟨sl 93 [(0, .int .i64 (p0)), (1, .int .i64 (k1)), (4, .sptr [(0, 2), (1, 1104)]), (5, .sptr [(2, 2), (3, 1104)]), (6, .sptr [(4, 2)]), (7, .int .i64 (x5)), (17, .int .i64 (p0)), (18, .int .i64 (x5))], [⟨true, .flat 2 (.ints .i64 (fun _ => 0))⟩, ⟨true, .flat 1104 (.ints .u8 (fun _ => 0))⟩, ⟨true, .flat 2 (.ints .i64 (upd (upd (fun _ => 0) 0 p0) 1 p0))⟩, ⟨true, .flat 1104 (.ints .u8 ov12)⟩, ⟨true, .flat 2 (.ints .i64 rv4)⟩]⟩
def Q35.k2g {ρ : Type} (N : Nat) (L0 : St → Option ρ) (kv : XE → St → Option ρ) : XE → St → Option ρ := (blockK Q35.kp 0 4 (seqK (xcode (E35 N) ents Q35.kp 0 N (cB (cB (cB (cB (cK (cA (cB (cB (cL (cK (cB (cA (cB (cB (cB Q35.bd))))))))))))))) 1) (blockK Q35.kp 0 1 (seqK (xcode (E35 N) ents Q35.kp 0 N (cB (cB (cB (cL (cK (cB (cA (cB (cB (cB Q35.bd)))))))))) 0) (roundK Q35.kp 0 0 L0 kv)))))
theorem Q35.k2_mix {ρ : Type} (N : Nat) (K : AV → Heap → Option ρ) (L0 : St → Option ρ) : mixK (Q35.fin N K .ret) (Q35.k2g N L0 (Q35.k0 N K)) = (Q35.k2g N L0 (Q35.k0 N K)) := by
  funext e s; cases e <;> kernel_rfl
def Q35.st2 (p0 : Int) (k1 : Int) (rv4 : Nat → Int) (x5 : Int) (binomial13 : Int) (j14 : Int) (gv15 : Nat → Int) : St := ⟨sl 93 [(0, .int .i64 (p0)), (1, .int .i64 (k1)), (4, .sptr [(0, 2), (1, 1104)]), (5, .sptr [(2, 2), (3, 1104)]), (6, .sptr [(4, 2)]), (7, .int .i64 (x5)), (9, .int .i64 (binomial13)), (10, .int .i64 (j14)), (17, .int .i64 (p0)), (18, .int .i64 (x5))], [⟨true, .flat 2 (.ints .i64 (fun _ => 0))⟩, ⟨true, .flat 1104 (.ints .u8 (fun _ => 0))⟩, ⟨true, .flat 2 (.ints .i64 (upd (upd (fun _ => 0) 0 p0) 1 p0))⟩, ⟨true, .flat 1104 (.ints .u8 gv15)⟩, ⟨true, .flat 2 (.ints .i64 rv4)⟩]⟩
def Q35.sx2_0 (p0 : Int) (k1 : Int) (rv4 : Nat → Int) (x5 : Int) (ov17 : Nat → Int) : St := ⟨sl 93 [(0, .int .i64 (p0)), (1, .int .i64 (k1)), (4, .sptr [(0, 2), (1, 1104)]), (5, .sptr [(2, 2), (3, 1104)]), (6, .sptr [(4, 2)]), (7, .int .i64 (x5)), (17, .int .i64 (p0)), (18, .int .i64 (x5))], [⟨true, .flat 2 (.ints .i64 (fun _ => 0))⟩, ⟨true, .flat 1104 (.ints .u8 (fun _ => 0))⟩, ⟨true, .flat 2 (.ints .i64 (upd (upd (fun _ => 0) 0 p0) 1 p0))⟩, ⟨true, .flat 1104 (.ints .u8 ov17)⟩, ⟨true, .flat 2 (.ints .i64 rv4)⟩]⟩
theorem Q35.b2_gen {ρ : Type} (N : Nat) (K : AV → Heap → Option ρ) (L2 : St → Option ρ) (kv : XE → St → Option ρ) (p0 : Int) (k1 : Int) (rv4 : Nat → Int) (x5 : Int) (binomial13 : Int) (j14 : Int) (gv15 : Nat → Int) :
    xcode (E35 N) ents Q35.kp 0 N (cL (cK (cB (cA (cB (cB (cB (cK (cA (cB (cB (cL (cK (cB (cA (cB (cB (cB Q35.bd)))))))))))))))))) 4 (Q35.st2 p0 k1 rv4 x5 binomial13 j14 gv15) (roundK Q35.kp 0 4 L2 (mixK (Q35.fin N K .ret) kv)) = (Q35.b2 N (fun d0 d1 => K (.agg [⟨.i64, 2, d0⟩, ⟨.u8, 1104, d1⟩]) []) (fun binomial13 j14 gv15 => L2 (Q35.st2 p0 k1 rv4 x5 binomial13 j14 gv15)) (fun ov17 => kv (.exit 4) (Q35.sx2_0 p0 k1 rv4 x5 ov17)) rv4 x5 binomial13 j14 gv15) := by kernel_rfl
theorem Q35.b2_eq {ρ : Type} (N : Nat) (K : AV → Heap → Option ρ) (L0 : St → Option ρ) (L2 : St → Option ρ) (p0 : Int) (k1 : Int) (rv4 : Nat → Int) (x5 : Int) (binomial13 : Int) (j14 : Int) (gv15 : Nat → Int) :
    xcode (E35 N) ents Q35.kp 0 N (cL (cK (cB (cA (cB (cB (cB (cK (cA (cB (cB (cL (cK (cB (cA (cB (cB (cB Q35.bd)))))))))))))))))) 4 (Q35.st2 p0 k1 rv4 x5 binomial13 j14 gv15) (roundK Q35.kp 0 4 L2 (Q35.k2g N L0 (Q35.k0 N K))) = (Q35.b2 N (fun d0 d1 => K (.agg [⟨.i64, 2, d0⟩, ⟨.u8, 1104, d1⟩]) []) (fun binomial13 j14 gv15 => L2 (Q35.st2 p0 k1 rv4 x5 binomial13 j14 gv15)) (fun ov17 => (Q35.k2g N L0 (Q35.k0 N K)) (.exit 4) (Q35.sx2_0 p0 k1 rv4 x5 ov17)) rv4 x5 binomial13 j14 gv15) := by
  have h := Q35.b2_gen N K L2 (Q35.k2g N L0 (Q35.k0 N K)) p0 k1 rv4 x5 binomial13 j14 gv15
  rw [Q35.k2_mix] at h
  exact h
theorem Q35.a2_0_gen {ρ : Type} (N : Nat) (K : AV → Heap → Option ρ) (L0 : St → Option ρ) (kv : XE → St → Option ρ) (p0 : Int) (k1 : Int) (rv4 : Nat → Int) (x5 : Int) (ov17 : Nat → Int) :
    (Q35.k2g N L0 (mixK (Q35.fin N K .ret) kv)) (.exit 4) (Q35.sx2_0 p0 k1 rv4 x5 ov17) = (Q35.a2_0 N (fun d0 d1 => K (.agg [⟨.i64, 2, d0⟩, ⟨.u8, 1104, d1⟩]) []) (fun x5 gv6 => L0 (Q35.st0 p0 k1 rv4 x5 gv6)) (fun ov20 => kv (.exit 0) (Q35.sx0_0 p0 ov20)) rv4 x5 ov17) := by kernel_rfl
theorem Q35.a2_0_eq {ρ : Type} (N : Nat) (K : AV → Heap → Option ρ) (L0 : St → Option ρ) (p0 : Int) (k1 : Int) (rv4 : Nat → Int) (x5 : Int) (ov17 : Nat → Int) :
    (Q35.k2g N L0 (Q35.k0 N K)) (.exit 4) (Q35.sx2_0 p0 k1 rv4 x5 ov17) = (Q35.a2_0 N (fun d0 d1 => K (.agg [⟨.i64, 2, d0⟩, ⟨.u8, 1104, d1⟩]) []) (fun x5 gv6 => L0 (Q35.st0 p0 k1 rv4 x5 gv6)) (fun ov20 => (Q35.k0 N K) (.exit 0) (Q35.sx0_0 p0 ov20)) rv4 x5 ov17) := by
  have h := Q35.a2_0_gen N K L0 (Q35.k0 N K) p0 k1 rv4 x5 ov17
  rw [Q35.k0_mix] at h
  exact h
theorem Q35.b1_gen {ρ : Type} (N : Nat) (K : AV → Heap → Option ρ) (L1 : St → Option ρ) (kv : XE → St → Option ρ) (p0 : Int) (k1 : Int) (rv4 : Nat → Int) (x5 : Int) (x7 : Int) (gv8 : Nat → Int) :
    xcode (E35 N) ents Q35.kp 0 N (cL (cK (cB (cA (cB (cK (cA (cB (cB (cL (cK (cB (cA (cB (cB (cB Q35.bd)))))))))))))))) 2 (Q35.st1 p0 k1 rv4 x5 x7 gv8) (roundK Q35.kp 0 2 L1 (mixK (Q35.fin N K .ret) kv)) = (Q35.b1 N (fun d0 d1 => K (.agg [⟨.i64, 2, d0⟩, ⟨.u8, 1104, d1⟩]) []) (fun x7 gv8 => L1 (Q35.st1 p0 k1 rv4 x5 x7 gv8)) (fun ov12 => kv (.exit 2) (Q35.sx1_0 p0 k1 rv4 x5 ov12)) p0 k1 rv4 x5 x7 gv8) := by kernel_rfl
theorem Q35.b1_eq {ρ : Type} (N : Nat) (K : AV → Heap → Option ρ) (L0 : St → Option ρ) (L1 : St → Option ρ) (p0 : Int) (k1 : Int) (rv4 : Nat → Int) (x5 : Int) (x7 : Int) (gv8 : Nat → Int) :
    xcode (E35 N) ents Q35.kp 0 N (cL (cK (cB (cA (cB (cK (cA (cB (cB (cL (cK (cB (cA (cB (cB (cB Q35.bd)))))))))))))))) 2 (Q35.st1 p0 k1 rv4 x5 x7 gv8) (roundK Q35.kp 0 2 L1 (Q35.k1g N L0 (Q35.k0 N K))) = (Q35.b1 N (fun d0 d1 => K (.agg [⟨.i64, 2, d0⟩, ⟨.u8, 1104, d1⟩]) []) (fun x7 gv8 => L1 (Q35.st1 p0 k1 rv4 x5 x7 gv8)) (fun ov12 => (Q35.k1g N L0 (Q35.k0 N K)) (.exit 2) (Q35.sx1_0 p0 k1 rv4 x5 ov12)) p0 k1 rv4 x5 x7 gv8) := by
  have h := Q35.b1_gen N K L1 (Q35.k1g N L0 (Q35.k0 N K)) p0 k1 rv4 x5 x7 gv8
  rw [Q35.k1_mix] at h
  exact h
theorem Q35.a1_0_gen {ρ : Type} (N : Nat) (K : AV → Heap → Option ρ) (L0 : St → Option ρ) (kv : XE → St → Option ρ) (p0 : Int) (k1 : Int) (rv4 : Nat → Int) (x5 : Int) (ov12 : Nat → Int) :
    (Q35.k1g N L0 (mixK (Q35.fin N K .ret) kv)) (.exit 2) (Q35.sx1_0 p0 k1 rv4 x5 ov12) = (Q35.a1_0 N (fun d0 d1 => K (.agg [⟨.i64, 2, d0⟩, ⟨.u8, 1104, d1⟩]) []) (fun binomial13 j14 gv15 => xloop (xcode (E35 N) ents Q35.kp 0 N (cL (cK (cB (cA (cB (cB (cB (cK (cA (cB (cB (cL (cK (cB (cA (cB (cB (cB Q35.bd)))))))))))))))))) 4) Q35.kp 0 4 N (Q35.st2 p0 k1 rv4 x5 binomial13 j14 gv15) (Q35.k2g N L0 (mixK (Q35.fin N K .ret) kv))) (fun x5 gv6 => L0 (Q35.st0 p0 k1 rv4 x5 gv6)) (fun ov20 => kv (.exit 0) (Q35.sx0_0 p0 ov20)) ov12) := by kernel_rfl
theorem Q35.a1_0_eq {ρ : Type} (N : Nat) (K : AV → Heap → Option ρ) (L0 : St → Option ρ) (p0 : Int) (k1 : Int) (rv4 : Nat → Int) (x5 : Int) (ov12 : Nat → Int) :
    (Q35.k1g N L0 (Q35.k0 N K)) (.exit 2) (Q35.sx1_0 p0 k1 rv4 x5 ov12) = (Q35.a1_0 N (fun d0 d1 => K (.agg [⟨.i64, 2, d0⟩, ⟨.u8, 1104, d1⟩]) []) (fun binomial13 j14 gv15 => xloop (xcode (E35 N) ents Q35.kp 0 N (cL (cK (cB (cA (cB (cB (cB (cK (cA (cB (cB (cL (cK (cB (cA (cB (cB (cB Q35.bd)))))))))))))))))) 4) Q35.kp 0 4 N (Q35.st2 p0 k1 rv4 x5 binomial13 j14 gv15) (Q35.k2g N L0 (Q35.k0 N K))) (fun x5 gv6 => L0 (Q35.st0 p0 k1 rv4 x5 gv6)) (fun ov20 => (Q35.k0 N K) (.exit 0) (Q35.sx0_0 p0 ov20)) ov12) := by
  have h := Q35.a1_0_gen N K L0 (Q35.k0 N K) p0 k1 rv4 x5 ov12
  rw [Q35.k0_mix] at h
  exact h
theorem Q35.b0_gen {ρ : Type} (N : Nat) (K : AV → Heap → Option ρ) (L0 : St → Option ρ) (kv : XE → St → Option ρ) (p0 : Int) (k1 : Int) (rv4 : Nat → Int) (x5 : Int) (gv6 : Nat → Int) :
    xcode (E35 N) ents Q35.kp 0 N (cL (cK (cB (cA (cB (cB (cB Q35.bd))))))) 0 (Q35.st0 p0 k1 rv4 x5 gv6) (roundK Q35.kp 0 0 L0 (mixK (Q35.fin N K .ret) kv)) = (Q35.b0 N (fun d0 d1 => K (.agg [⟨.i64, 2, d0⟩, ⟨.u8, 1104, d1⟩]) []) (fun x7 gv8 => xloop (xcode (E35 N) ents Q35.kp 0 N (cL (cK (cB (cA (cB (cK (cA (cB (cB (cL (cK (cB (cA (cB (cB (cB Q35.bd)))))))))))))))) 2) Q35.kp 0 2 N (Q35.st1 p0 k1 rv4 x5 x7 gv8) (Q35.k1g N L0 (mixK (Q35.fin N K .ret) kv))) (fun x5 gv6 => L0 (Q35.st0 p0 k1 rv4 x5 gv6)) (fun ov20 => kv (.exit 0) (Q35.sx0_0 p0 ov20)) p0 x5 gv6) := by kernel_rfl
theorem Q35.b0_eq {ρ : Type} (N : Nat) (K : AV → Heap → Option ρ) (L0 : St → Option ρ) (p0 : Int) (k1 : Int) (rv4 : Nat → Int) (x5 : Int) (gv6 : Nat → Int) :
    xcode (E35 N) ents Q35.kp 0 N (cL (cK (cB (cA (cB (cB (cB Q35.bd))))))) 0 (Q35.st0 p0 k1 rv4 x5 gv6) (roundK Q35.kp 0 0 L0 (Q35.k0 N K)) = (Q35.b0 N (fun d0 d1 => K (.agg [⟨.i64, 2, d0⟩, ⟨.u8, 1104, d1⟩]) []) (fun x7 gv8 => xloop (xcode (E35 N) ents Q35.kp 0 N (cL (cK (cB (cA (cB (cK (cA (cB (cB (cL (cK (cB (cA (cB (cB (cB Q35.bd)))))))))))))))) 2) Q35.kp 0 2 N (Q35.st1 p0 k1 rv4 x5 x7 gv8) (Q35.k1g N L0 (Q35.k0 N K))) (fun x5 gv6 => L0 (Q35.st0 p0 k1 rv4 x5 gv6)) (fun ov20 => (Q35.k0 N K) (.exit 0) (Q35.sx0_0 p0 ov20)) p0 x5 gv6) := by
  have h := Q35.b0_gen N K L0 (Q35.k0 N K) p0 k1 rv4 x5 gv6
  rw [Q35.k0_mix] at h
  exact h
theorem Q35.a0_0_eq {ρ : Type} (N : Nat) (K : AV → Heap → Option ρ) (p0 : Int) (ov20 : Nat → Int) :
    (Q35.k0 N K) (.exit 0) (Q35.sx0_0 p0 ov20) = (Q35.a0_0 N (fun d0 d1 => K (.agg [⟨.i64, 2, d0⟩, ⟨.u8, 1104, d1⟩]) []) p0 ov20) := by kernel_rfl
theorem Q35.l2_eq {ρ : Type} (N : Nat) (K : AV → Heap → Option ρ) (L0 : St → Option ρ) (p0 : Int) (k1 : Int) (rv4 : Nat → Int) (x5 : Int) :
    ∀ (m : Nat) (binomial13 : Int) (j14 : Int) (gv15 : Nat → Int), xloop (xcode (E35 N) ents Q35.kp 0 N (cL (cK (cB (cA (cB (cB (cB (cK (cA (cB (cB (cL (cK (cB (cA (cB (cB (cB Q35.bd)))))))))))))))))) 4) Q35.kp 0 4 m (Q35.st2 p0 k1 rv4 x5 binomial13 j14 gv15) (Q35.k2g N L0 (Q35.k0 N K)) = (Q35.l2 N (fun d0 d1 => K (.agg [⟨.i64, 2, d0⟩, ⟨.u8, 1104, d1⟩]) []) rv4 x5 (fun ov17 => (Q35.k2g N L0 (Q35.k0 N K)) (.exit 4) (Q35.sx2_0 p0 k1 rv4 x5 ov17)) m binomial13 j14 gv15) := by
  intro m
  induction m with
  | zero => intros; rfl
  | succ m ih =>
    intro binomial13 j14 gv15
    refine (Q35.b2_eq N K L0 (fun s => xloop (xcode (E35 N) ents Q35.kp 0 N (cL (cK (cB (cA (cB (cB (cB (cK (cA (cB (cB (cL (cK (cB (cA (cB (cB (cB Q35.bd)))))))))))))))))) 4) Q35.kp 0 4 m s (Q35.k2g N L0 (Q35.k0 N K))) p0 k1 rv4 x5 binomial13 j14 gv15).trans ?_
    simp only [ih]
    kernel_rfl
theorem Q35.l1_eq {ρ : Type} (N : Nat) (K : AV → Heap → Option ρ) (L0 : St → Option ρ) (p0 : Int) (k1 : Int) (rv4 : Nat → Int) (x5 : Int) :
    ∀ (m : Nat) (x7 : Int) (gv8 : Nat → Int), xloop (xcode (E35 N) ents Q35.kp 0 N (cL (cK (cB (cA (cB (cK (cA (cB (cB (cL (cK (cB (cA (cB (cB (cB Q35.bd)))))))))))))))) 2) Q35.kp 0 2 m (Q35.st1 p0 k1 rv4 x5 x7 gv8) (Q35.k1g N L0 (Q35.k0 N K)) = (Q35.l1 N (fun d0 d1 => K (.agg [⟨.i64, 2, d0⟩, ⟨.u8, 1104, d1⟩]) []) p0 k1 rv4 x5 (fun ov12 => (Q35.k1g N L0 (Q35.k0 N K)) (.exit 2) (Q35.sx1_0 p0 k1 rv4 x5 ov12)) m x7 gv8) := by
  intro m
  induction m with
  | zero => intros; rfl
  | succ m ih =>
    intro x7 gv8
    refine (Q35.b1_eq N K L0 (fun s => xloop (xcode (E35 N) ents Q35.kp 0 N (cL (cK (cB (cA (cB (cK (cA (cB (cB (cL (cK (cB (cA (cB (cB (cB Q35.bd)))))))))))))))) 2) Q35.kp 0 2 m s (Q35.k1g N L0 (Q35.k0 N K))) p0 k1 rv4 x5 x7 gv8).trans ?_
    simp only [ih]
    kernel_rfl
theorem Q35.l0_eq {ρ : Type} (N : Nat) (K : AV → Heap → Option ρ) (p0 : Int) (k1 : Int) (rv4 : Nat → Int) :
    ∀ (m : Nat) (x5 : Int) (gv6 : Nat → Int), xloop (xcode (E35 N) ents Q35.kp 0 N (cL (cK (cB (cA (cB (cB (cB Q35.bd))))))) 0) Q35.kp 0 0 m (Q35.st0 p0 k1 rv4 x5 gv6) (Q35.k0 N K) = (Q35.l0 N (fun d0 d1 => K (.agg [⟨.i64, 2, d0⟩, ⟨.u8, 1104, d1⟩]) []) p0 k1 rv4 (fun ov20 => (Q35.k0 N K) (.exit 0) (Q35.sx0_0 p0 ov20)) m x5 gv6) := by
  intro m
  induction m with
  | zero => intros; rfl
  | succ m ih =>
    intro x5 gv6
    refine (Q35.b0_eq N K (fun s => xloop (xcode (E35 N) ents Q35.kp 0 N (cL (cK (cB (cA (cB (cB (cB Q35.bd))))))) 0) Q35.kp 0 0 m s (Q35.k0 N K)) p0 k1 rv4 x5 gv6).trans ?_
    simp only [ih, Q35.l1_eq, Q35.a1_0_eq, Q35.l2_eq, Q35.a2_0_eq]
    kernel_rfl
theorem Q35.s_eq {ρ : Type} (N : Nat) (K : AV → Heap → Option ρ) (p0 : Int) (k1 : Int) :
    xbody (E35 N) ents Q35.kp N Try.f37 Q35.bd [.int .i64 (p0), .int .i64 (k1)] [] K = (Q35.s N (fun d0 d1 => K (.agg [⟨.i64, 2, d0⟩, ⟨.u8, 1104, d1⟩]) []) (fun rv4 x5 gv6 => xloop (xcode (E35 N) ents Q35.kp 0 N (cL (cK (cB (cA (cB (cB (cB Q35.bd))))))) 0) Q35.kp 0 0 N (Q35.st0 p0 k1 rv4 x5 gv6) (Q35.k0 N K)) p0) := by kernel_rfl
theorem Q35.eq {ρ : Type} (N : Nat) (K : AV → Heap → Option ρ) (p0 : Int) (k1 : Int) :
    xbody (E35 N) ents Q35.kp N Try.f37 Q35.bd [.int .i64 (p0), .int .i64 (k1)] [] K = (Q35 N (fun d0 d1 => K (.agg [⟨.i64, 2, d0⟩, ⟨.u8, 1104, d1⟩]) []) p0 k1) := by
  refine (Q35.s_eq N K p0 k1).trans ?_
  simp only [Q35.l0_eq, Q35.a0_0_eq]
  kernel_rfl
def Q35.en (N : Nat) (ρ : Type) : List AV → Heap → (AV → Heap → Option ρ) → Option ρ
  | [.int .i64 (p0), .int .i64 (k1)], [], K => (Q35 N (fun d0 d1 => K (.agg [⟨.i64, 2, d0⟩, ⟨.u8, 1104, d1⟩]) []) p0 k1)
  | _, _, _ => none
theorem Q35.en_ok (N : Nat) (hE : EnvOk (E35 N) ents) (ρ : Type) (args : List AV) (sh : Heap) (K : AV → Heap → Option ρ) (r : ρ) (h : Q35.en N ρ args sh K = some r) : ∃ v sh', K v sh' = some r ∧ FnOk (E35 N).P 37 args sh v sh' := by
  unfold Q35.en at h
  split at h
  · exact fn_ok hE (kp := Q35.kp) (N := N) Try.func37 (c := Q35.bd) (by kernel_rfl) ((Q35.eq N _ _ _).trans h)
  · cases h
def E36 (N : Nat) : Env := (E35 N).add 37 (Q35.en N)
theorem E36_ok (N : Nat) : EnvOk (E36 N) ents := Env.add_ok (E35_ok N) (Q35.en_ok N (E35_ok N))
def Q36.kp : Keeps := ⟨[], [], []⟩
def Q36.bd : Code := bodyOf Try.f13
def Q36.fin {ρ : Type} (N : Nat) (K : AV → Heap → Option ρ) : XE → St → Option ρ := finK (E36 N) Q36.kp.fins Try.f13 [] K
theorem Q36.eq {ρ : Type} (N : Nat) (K : AV → Heap → Option ρ) (p0 : Int) (k1 : Int) :
    xbody (E36 N) ents Q36.kp N Try.f13 Q36.bd [.int .i64 (p0), .int .i64 (k1)] [] K = (Q36 N (fun d0 d1 d2 => K (.tup [.agg [⟨.i64, 2, d0⟩, ⟨.u8, 1104, d1⟩], .int .i64 (d2)]) []) p0 k1) := by kernel_rfl
def Q36.en (N : Nat) (ρ : Type) : List AV → Heap → (AV → Heap → Option ρ) → Option ρ
  | [.int .i64 (p0), .int .i64 (k1)], [], K => (Q36 N (fun d0 d1 d2 => K (.tup [.agg [⟨.i64, 2, d0⟩, ⟨.u8, 1104, d1⟩], .int .i64 (d2)]) []) p0 k1)
  | _, _, _ => none
theorem Q36.en_ok (N : Nat) (hE : EnvOk (E36 N) ents) (ρ : Type) (args : List AV) (sh : Heap) (K : AV → Heap → Option ρ) (r : ρ) (h : Q36.en N ρ args sh K = some r) : ∃ v sh', K v sh' = some r ∧ FnOk (E36 N).P 13 args sh v sh' := by
  unfold Q36.en at h
  split at h
  · exact fn_ok hE (kp := Q36.kp) (N := N) Try.func13 (c := Q36.bd) (by kernel_rfl) ((Q36.eq N _ _ _).trans h)
  · cases h
def E37 (N : Nat) : Env := (E36 N).add 13 (Q36.en N)
theorem E37_ok (N : Nat) : EnvOk (E37 N) ents := Env.add_ok (E36_ok N) (Q36.en_ok N (E36_ok N))
def Q37.kp : Keeps := ⟨[], [], []⟩
def Q37.bd : Code := bodyOf Try.f38
def Q37.fin {ρ : Type} (N : Nat) (K : AV → Heap → Option ρ) : XE → St → Option ρ := finK (E37 N) Q37.kp.fins Try.f38 [] K
theorem Q37.eq {ρ : Type} (N : Nat) (K : AV → Heap → Option ρ) (p0 : Int) :
    xbody (E37 N) ents Q37.kp N Try.f38 Q37.bd [.int .i64 (p0)] [] K = (Q37 N (fun d0 => K (.bool (d0)) []) p0) := by kernel_rfl
def Q37.en (N : Nat) (ρ : Type) : List AV → Heap → (AV → Heap → Option ρ) → Option ρ
  | [.int .i64 (p0)], [], K => (Q37 N (fun d0 => K (.bool (d0)) []) p0)
  | _, _, _ => none
theorem Q37.en_ok (N : Nat) (hE : EnvOk (E37 N) ents) (ρ : Type) (args : List AV) (sh : Heap) (K : AV → Heap → Option ρ) (r : ρ) (h : Q37.en N ρ args sh K = some r) : ∃ v sh', K v sh' = some r ∧ FnOk (E37 N).P 38 args sh v sh' := by
  unfold Q37.en at h
  split at h
  · exact fn_ok hE (kp := Q37.kp) (N := N) Try.func38 (c := Q37.bd) (by kernel_rfl) ((Q37.eq N _ _).trans h)
  · cases h
def E38 (N : Nat) : Env := (E37 N).add 38 (Q37.en N)
theorem E38_ok (N : Nat) : EnvOk (E38 N) ents := Env.add_ok (E37_ok N) (Q37.en_ok N (E37_ok N))
def Q38.kp : Keeps := ⟨[], [], []⟩
def Q38.bd : Code := bodyOf Try.f60
def Q38.fin {ρ : Type} (N : Nat) (K : AV → Heap → Option ρ) : XE → St → Option ρ := finK (E38 N) Q38.kp.fins Try.f60 [] K
theorem Q38.eq {ρ : Type} (N : Nat) (K : AV → Heap → Option ρ) (mv0 : Int) (nv1 : Int) :
    xbody (E38 N) ents Q38.kp N Try.f60 Q38.bd [.int .i64 (mv0), .int .i64 (nv1)] [] K = (Q38 N (fun d0 d1 => K (.tup [.int .i64 (d0), .int .i64 (d1)]) []) mv0 nv1) := by kernel_rfl
def Q38.en (N : Nat) (ρ : Type) : List AV → Heap → (AV → Heap → Option ρ) → Option ρ
  | [.int .i64 (mv0), .int .i64 (nv1)], [], K => (Q38 N (fun d0 d1 => K (.tup [.int .i64 (d0), .int .i64 (d1)]) []) mv0 nv1)
  | _, _, _ => none
theorem Q38.en_ok (N : Nat) (hE : EnvOk (E38 N) ents) (ρ : Type) (args : List AV) (sh : Heap) (K : AV → Heap → Option ρ) (r : ρ) (h : Q38.en N ρ args sh K = some r) : ∃ v sh', K v sh' = some r ∧ FnOk (E38 N).P 60 args sh v sh' := by
  unfold Q38.en at h
  split at h
  · exact fn_ok hE (kp := Q38.kp) (N := N) Try.func60 (c := Q38.bd) (by kernel_rfl) ((Q38.eq N _ _ _).trans h)
  · cases h
def E39 (N : Nat) : Env := (E38 N).add 60 (Q38.en N)
theorem E39_ok (N : Nat) : EnvOk (E39 N) ents := Env.add_ok (E38_ok N) (Q38.en_ok N (E38_ok N))
def Q39.kp : Keeps := ⟨[(0, [3, 5, 6, 7, 11, 12], [], [])], [(0, [6, 7], [], [])], []⟩
def Q39.bd : Code := bodyOf Try.f61
def Q39.fin {ρ : Type} (N : Nat) (K : AV → Heap → Option ρ) : XE → St → Option ρ := finK (E39 N) Q39.kp.fins Try.f61 [] K
def Q39.k0 {ρ : Type} (N : Nat) (K : AV → Heap → Option ρ) : XE → St → Option ρ := (blockK Q39.kp 0 0 (seqK (xcode (E39 N) ents Q39.kp 0 N (cB (cB (cB Q39.bd))) 0) (Q39.fin N K)))
theorem Q39.k0_mix {ρ : Type} (N : Nat) (K : AV → Heap → Option ρ) : mixK (Q39.fin N K .ret) (Q39.k0 N K) = (Q39.k0 N K) := by
  funext e s; cases e <;> kernel_rfl
def Q39.st0 (f0 : Nat → Int) (v1 : Nat → Int) (w2 : Nat → Int) (x3 : Int) (gv4 : Nat → Int) : St := ⟨sl 25 [(3, .sptr [(0, 2)]), (5, .sptr [(1, 8)]), (6, .sptr [(2, 64)]), (7, .sptr [(3, 64)]), (11, .agg [⟨.u8, 8, v1⟩]), (12, .int .i64 (x3))], [⟨true, .flat 2 (.ints .i64 f0)⟩, ⟨true, .flat 8 (.ints .u8 w2)⟩, ⟨true, .flat 64 (.ints .u8 (fun _ => 0))⟩, ⟨true, .flat 64 (.ints .u8 gv4)⟩]⟩
def Q39.sx0_0 (ov6 : Nat → Int) : St := ⟨sl 25 [(6, .sptr [(0, 64)]), (7, .sptr [(1, 64)])], [⟨true, .flat 64 (.ints .u8 (fun _ => 0))⟩, ⟨true, .flat 64 (.ints .u8 ov6)⟩]⟩
theorem Q39.b0_gen {ρ : Type} (N : Nat) (K : AV → Heap → Option ρ) (L0 : St → Option ρ) (kv : XE → St → Option ρ) (f0 : Nat → Int) (v1 : Nat → Int) (w2 : Nat → Int) (x3 : Int) (gv4 : Nat → Int) :
    xcode (E39 N) ents Q39.kp 0 N (cL (cK (cB (cA (cB (cB Q39.bd)))))) 0 (Q39.st0 f0 v1 w2 x3 gv4) (roundK Q39.kp 0 0 L0 (mixK (Q39.fin N K .ret) kv)) = (Q39.b0 N (fun d0 => K (.agg [⟨.u8, 64, d0⟩]) []) (fun x3 gv4 => L0 (Q39.st0 f0 v1 w2 x3 gv4)) (fun ov6 => kv (.exit 0) (Q39.sx0_0 ov6)) f0 v1 w2 x3 gv4) := by kernel_rfl
theorem Q39.b0_eq {ρ : Type} (N : Nat) (K : AV → Heap → Option ρ) (L0 : St → Option ρ) (f0 : Nat → Int) (v1 : Nat → Int) (w2 : Nat → Int) (x3 : Int) (gv4 : Nat → Int) :
    xcode (E39 N) ents Q39.kp 0 N (cL (cK (cB (cA (cB (cB Q39.bd)))))) 0 (Q39.st0 f0 v1 w2 x3 gv4) (roundK Q39.kp 0 0 L0 (Q39.k0 N K)) = (Q39.b0 N (fun d0 => K (.agg [⟨.u8, 64, d0⟩]) []) (fun x3 gv4 => L0 (Q39.st0 f0 v1 w2 x3 gv4)) (fun ov6 => (Q39.k0 N K) (.exit 0) (Q39.sx0_0 ov6)) f0 v1 w2 x3 gv4) := by
  have h := Q39.b0_gen N K L0 (Q39.k0 N K) f0 v1 w2 x3 gv4
  rw [Q39.k0_mix] at h
  exact h
theorem Q39.a0_0_eq {ρ : Type} (N : Nat) (K : AV → Heap → Option ρ) (ov6 : Nat → Int) :
    (Q39.k0 N K) (.exit 0) (Q39.sx0_0 ov6) = (Q39.a0_0 N (fun d0 => K (.agg [⟨.u8, 64, d0⟩]) []) ov6) := by kernel_rfl
theorem Q39.l0_eq {ρ : Type} (N : Nat) (K : AV → Heap → Option ρ) (f0 : Nat → Int) (v1 : Nat → Int) (w2 : Nat → Int) :
    ∀ (m : Nat) (x3 : Int) (gv4 : Nat → Int), xloop (xcode (E39 N) ents Q39.kp 0 N (cL (cK (cB (cA (cB (cB Q39.bd)))))) 0) Q39.kp 0 0 m (Q39.st0 f0 v1 w2 x3 gv4) (Q39.k0 N K) = (Q39.l0 N (fun d0 => K (.agg [⟨.u8, 64, d0⟩]) []) f0 v1 w2 (fun ov6 => (Q39.k0 N K) (.exit 0) (Q39.sx0_0 ov6)) m x3 gv4) := by
  intro m
  induction m with
  | zero => intros; rfl
  | succ m ih =>
    intro x3 gv4
    refine (Q39.b0_eq N K (fun s => xloop (xcode (E39 N) ents Q39.kp 0 N (cL (cK (cB (cA (cB (cB Q39.bd)))))) 0) Q39.kp 0 0 m s (Q39.k0 N K)) f0 v1 w2 x3 gv4).trans ?_
    simp only [ih]
    kernel_rfl
theorem Q39.s_eq {ρ : Type} (N : Nat) (K : AV → Heap → Option ρ) (f0 : Nat → Int) (v1 : Nat → Int) (w2 : Nat → Int) :
    xbody (E39 N) ents Q39.kp N Try.f61 Q39.bd [.agg [⟨.i64, 2, f0⟩], .agg [⟨.u8, 8, v1⟩], .agg [⟨.u8, 8, w2⟩]] [] K = (Q39.s N (fun d0 => K (.agg [⟨.u8, 64, d0⟩]) []) (fun x3 gv4 => xloop (xcode (E39 N) ents Q39.kp 0 N (cL (cK (cB (cA (cB (cB Q39.bd)))))) 0) Q39.kp 0 0 N (Q39.st0 f0 v1 w2 x3 gv4) (Q39.k0 N K))) := by kernel_rfl
theorem Q39.eq {ρ : Type} (N : Nat) (K : AV → Heap → Option ρ) (f0 : Nat → Int) (v1 : Nat → Int) (w2 : Nat → Int) :
    xbody (E39 N) ents Q39.kp N Try.f61 Q39.bd [.agg [⟨.i64, 2, f0⟩], .agg [⟨.u8, 8, v1⟩], .agg [⟨.u8, 8, w2⟩]] [] K = (Q39 N (fun d0 => K (.agg [⟨.u8, 64, d0⟩]) []) f0 v1 w2) := by
  refine (Q39.s_eq N K f0 v1 w2).trans ?_
  simp only [Q39.l0_eq, Q39.a0_0_eq]
  kernel_rfl
def Q39.en (N : Nat) (ρ : Type) : List AV → Heap → (AV → Heap → Option ρ) → Option ρ
  | [.agg [⟨.i64, 2, f0⟩], .agg [⟨.u8, 8, v1⟩], .agg [⟨.u8, 8, w2⟩]], [], K => (Q39 N (fun d0 => K (.agg [⟨.u8, 64, d0⟩]) []) f0 v1 w2)
  | _, _, _ => none
theorem Q39.en_ok (N : Nat) (hE : EnvOk (E39 N) ents) (ρ : Type) (args : List AV) (sh : Heap) (K : AV → Heap → Option ρ) (r : ρ) (h : Q39.en N ρ args sh K = some r) : ∃ v sh', K v sh' = some r ∧ FnOk (E39 N).P 61 args sh v sh' := by
  unfold Q39.en at h
  split at h
  · exact fn_ok hE (kp := Q39.kp) (N := N) Try.func61 (c := Q39.bd) (by kernel_rfl) ((Q39.eq N _ _ _ _).trans h)
  · cases h
def E40 (N : Nat) : Env := (E39 N).add 61 (Q39.en N)
theorem E40_ok (N : Nat) : EnvOk (E40 N) ents := Env.add_ok (E39_ok N) (Q39.en_ok N (E39_ok N))
def Q40.kp : Keeps := ⟨[(0, [1, 2, 3, 5, 6, 7, 8, 21, 22], [], [])], [(0, [], [], [])], []⟩
def Q40.bd : Code := bodyOf Try.f83
def Q40.fin {ρ : Type} (N : Nat) (K : AV → Heap → Option ρ) (gv3 : Nat → Int) (gv4 : Nat → Int) (gv5 : Nat → Int) (gv6 : Nat → Int) (gv7 : Nat → Int) (gv8 : Nat → Int) (gv9 : Nat → Int) : XE → St → Option ρ := finK (E40 N) Q40.kp.fins Try.f83 [⟨false, .avs [.sptr [(6, 2), (7, 1104)]]⟩, ⟨false, .flat 1 (.ints .i64 gv3)⟩, ⟨false, .flat 2 (.ints .i64 gv4)⟩, ⟨true, .flat 64 (.ints .u8 gv5)⟩, ⟨false, .flat 1 (.ints .i64 gv6)⟩, ⟨false, .flat 1 (.ints .i64 gv7)⟩, ⟨false, .flat 2 (.ints .i64 gv8)⟩, ⟨false, .flat 1104 (.ints .u8 gv9)⟩] K
def Q40.k0 {ρ : Type} (N : Nat) (K : AV → Heap → Option ρ) (gv3 : Nat → Int) (gv4 : Nat → Int) (gv5 : Nat → Int) (gv6 : Nat → Int) (gv7 : Nat → Int) (gv8 : Nat → Int) (gv9 : Nat → Int) : XE → St → Option ρ := (blockK Q40.kp 8 0 (Q40.fin N K gv3 gv4 gv5 gv6 gv7 gv8 gv9))
theorem Q40.k0_mix {ρ : Type} (N : Nat) (K : AV → Heap → Option ρ) (gv3 : Nat → Int) (gv4 : Nat → Int) (gv5 : Nat → Int) (gv6 : Nat → Int) (gv7 : Nat → Int) (gv8 : Nat → Int) (gv9 : Nat → Int) : mixK (Q40.fin N K gv3 gv4 gv5 gv6 gv7 gv8 gv9 .ret) (Q40.k0 N K gv3 gv4 gv5 gv6 gv7 gv8 gv9) = (Q40.k0 N K gv3 gv4 gv5 gv6 gv7 gv8 gv9) := by
  funext e s; cases e <;> kernel_rfl
def Q40.st0 (lv0 : Int) (mv1 : Int) (y2 : Int) (gv3 : Nat → Int) (gv4 : Nat → Int) (gv6 : Nat → Int) (gv7 : Nat → Int) (gv8 : Nat → Int) (gv9 : Nat → Int) (x10 : Int) (gv11 : Nat → Int) : St := ⟨sl 48 [(1, .int .i64 (mv1)), (2, .int .i64 (y2)), (3, .sptr [(0, 1)]), (5, .sptr [(2, 2)]), (6, .sptr [(3, 64)]), (7, .sptr [(4, 1)]), (8, .sptr [(5, 1)]), (21, .agg [⟨.u8, 8, (fun z => (gv9 (((8 + (((gv3 0)).toNat * 64)) + (lv0.toNat * 8)) + z)))⟩]), (22, .int .i64 (x10))], [⟨false, .avs [.sptr [(6, 2), (7, 1104)]]⟩, ⟨false, .flat 1 (.ints .i64 gv3)⟩, ⟨false, .flat 2 (.ints .i64 gv4)⟩, ⟨true, .flat 64 (.ints .u8 gv11)⟩, ⟨false, .flat 1 (.ints .i64 gv6)⟩, ⟨false, .flat 1 (.ints .i64 gv7)⟩, ⟨false, .flat 2 (.ints .i64 gv8)⟩, ⟨false, .flat 1104 (.ints .u8 gv9)⟩]⟩
def Q40.sx0_0 (gv3 : Nat → Int) (gv4 : Nat → Int) (gv6 : Nat → Int) (gv7 : Nat → Int) (gv8 : Nat → Int) (gv9 : Nat → Int) (ov13 : Nat → Int) : St := ⟨sl 48 [], [⟨false, .avs [.sptr [(6, 2), (7, 1104)]]⟩, ⟨false, .flat 1 (.ints .i64 gv3)⟩, ⟨false, .flat 2 (.ints .i64 gv4)⟩, ⟨true, .flat 64 (.ints .u8 ov13)⟩, ⟨false, .flat 1 (.ints .i64 gv6)⟩, ⟨false, .flat 1 (.ints .i64 gv7)⟩, ⟨false, .flat 2 (.ints .i64 gv8)⟩, ⟨false, .flat 1104 (.ints .u8 gv9)⟩]⟩
theorem Q40.b0_gen {ρ : Type} (N : Nat) (K : AV → Heap → Option ρ) (L0 : St → Option ρ) (kv : XE → St → Option ρ) (lv0 : Int) (mv1 : Int) (y2 : Int) (gv3 : Nat → Int) (gv4 : Nat → Int) (gv5 : Nat → Int) (gv6 : Nat → Int) (gv7 : Nat → Int) (gv8 : Nat → Int) (gv9 : Nat → Int) (x10 : Int) (gv11 : Nat → Int) :
    xcode (E40 N) ents Q40.kp 8 N (cL (cK (cB Q40.bd))) 0 (Q40.st0 lv0 mv1 y2 gv3 gv4 gv6 gv7 gv8 gv9 x10 gv11) (roundK Q40.kp 8 0 L0 (mixK (Q40.fin N K gv3 gv4 gv5 gv6 gv7 gv8 gv9 .ret) kv)) = (Q40.b0 N (fun d0 => K (.tup []) [⟨false, .avs [.sptr [(6, 2), (7, 1104)]]⟩, ⟨false, .flat 1 (.ints .i64 gv3)⟩, ⟨false, .flat 2 (.ints .i64 gv4)⟩, ⟨true, .flat 64 (.ints .u8 d0)⟩, ⟨false, .flat 1 (.ints .i64 gv6)⟩, ⟨false, .flat 1 (.ints .i64 gv7)⟩, ⟨false, .flat 2 (.ints .i64 gv8)⟩, ⟨false, .flat 1104 (.ints .u8 gv9)⟩]) (fun x10 gv11 => L0 (Q40.st0 lv0 mv1 y2 gv3 gv4 gv6 gv7 gv8 gv9 x10 gv11)) (fun ov13 => kv (.exit 0) (Q40.sx0_0 gv3 gv4 gv6 gv7 gv8 gv9 ov13)) lv0 mv1 y2 gv3 gv4 gv6 gv7 gv9 x10 gv11) := by kernel_rfl
theorem Q40.b0_eq {ρ : Type} (N : Nat) (K : AV → Heap → Option ρ) (L0 : St → Option ρ) (lv0 : Int) (mv1 : Int) (y2 : Int) (gv3 : Nat → Int) (gv4 : Nat → Int) (gv5 : Nat → Int) (gv6 : Nat → Int) (gv7 : Nat → Int) (gv8 : Nat → Int) (gv9 : Nat → Int) (x10 : Int) (gv11 : Nat → Int) :
    xcode (E40 N) ents Q40.kp 8 N (cL (cK (cB Q40.bd))) 0 (Q40.st0 lv0 mv1 y2 gv3 gv4 gv6 gv7 gv8 gv9 x10 gv11) (roundK Q40.kp 8 0 L0 (Q40.k0 N K gv3 gv4 gv5 gv6 gv7 gv8 gv9)) = (Q40.b0 N (fun d0 => K (.tup []) [⟨false, .avs [.sptr [(6, 2), (7, 1104)]]⟩, ⟨false, .flat 1 (.ints .i64 gv3)⟩, ⟨false, .flat 2 (.ints .i64 gv4)⟩, ⟨true, .flat 64 (.ints .u8 d0)⟩, ⟨false, .flat 1 (.ints .i64 gv6)⟩, ⟨false, .flat 1 (.ints .i64 gv7)⟩, ⟨false, .flat 2 (.ints .i64 gv8)⟩, ⟨false, .flat 1104 (.ints .u8 gv9)⟩]) (fun x10 gv11 => L0 (Q40.st0 lv0 mv1 y2 gv3 gv4 gv6 gv7 gv8 gv9 x10 gv11)) (fun ov13 => (Q40.k0 N K gv3 gv4 gv5 gv6 gv7 gv8 gv9) (.exit 0) (Q40.sx0_0 gv3 gv4 gv6 gv7 gv8 gv9 ov13)) lv0 mv1 y2 gv3 gv4 gv6 gv7 gv9 x10 gv11) := by
  have h := Q40.b0_gen N K L0 (Q40.k0 N K gv3 gv4 gv5 gv6 gv7 gv8 gv9) lv0 mv1 y2 gv3 gv4 gv5 gv6 gv7 gv8 gv9 x10 gv11
  rw [Q40.k0_mix] at h
  exact h
theorem Q40.a0_0_eq {ρ : Type} (N : Nat) (K : AV → Heap → Option ρ) (gv3 : Nat → Int) (gv4 : Nat → Int) (gv5 : Nat → Int) (gv6 : Nat → Int) (gv7 : Nat → Int) (gv8 : Nat → Int) (gv9 : Nat → Int) (ov13 : Nat → Int) :
    (Q40.k0 N K gv3 gv4 gv5 gv6 gv7 gv8 gv9) (.exit 0) (Q40.sx0_0 gv3 gv4 gv6 gv7 gv8 gv9 ov13) = (Q40.a0_0 N (fun d0 => K (.tup []) [⟨false, .avs [.sptr [(6, 2), (7, 1104)]]⟩, ⟨false, .flat 1 (.ints .i64 gv3)⟩, ⟨false, .flat 2 (.ints .i64 gv4)⟩, ⟨true, .flat 64 (.ints .u8 d0)⟩, ⟨false, .flat 1 (.ints .i64 gv6)⟩, ⟨false, .flat 1 (.ints .i64 gv7)⟩, ⟨false, .flat 2 (.ints .i64 gv8)⟩, ⟨false, .flat 1104 (.ints .u8 gv9)⟩]) ov13) := by kernel_rfl
theorem Q40.l0_eq {ρ : Type} (N : Nat) (K : AV → Heap → Option ρ) (lv0 : Int) (mv1 : Int) (y2 : Int) (gv3 : Nat → Int) (gv4 : Nat → Int) (gv5 : Nat → Int) (gv6 : Nat → Int) (gv7 : Nat → Int) (gv8 : Nat → Int) (gv9 : Nat → Int) :
    ∀ (m : Nat) (x10 : Int) (gv11 : Nat → Int), xloop (xcode (E40 N) ents Q40.kp 8 N (cL (cK (cB Q40.bd))) 0) Q40.kp 8 0 m (Q40.st0 lv0 mv1 y2 gv3 gv4 gv6 gv7 gv8 gv9 x10 gv11) (Q40.k0 N K gv3 gv4 gv5 gv6 gv7 gv8 gv9) = (Q40.l0 N (fun d0 => K (.tup []) [⟨false, .avs [.sptr [(6, 2), (7, 1104)]]⟩, ⟨false, .flat 1 (.ints .i64 gv3)⟩, ⟨false, .flat 2 (.ints .i64 gv4)⟩, ⟨true, .flat 64 (.ints .u8 d0)⟩, ⟨false, .flat 1 (.ints .i64 gv6)⟩, ⟨false, .flat 1 (.ints .i64 gv7)⟩, ⟨false, .flat 2 (.ints .i64 gv8)⟩, ⟨false, .flat 1104 (.ints .u8 gv9)⟩]) lv0 mv1 y2 gv3 gv4 gv6 gv7 gv9 (fun ov13 => (Q40.k0 N K gv3 gv4 gv5 gv6 gv7 gv8 gv9) (.exit 0) (Q40.sx0_0 gv3 gv4 gv6 gv7 gv8 gv9 ov13)) m x10 gv11) := by
  intro m
  induction m with
  | zero => intros; rfl
  | succ m ih =>
    intro x10 gv11
    refine (Q40.b0_eq N K (fun s => xloop (xcode (E40 N) ents Q40.kp 8 N (cL (cK (cB Q40.bd))) 0) Q40.kp 8 0 m s (Q40.k0 N K gv3 gv4 gv5 gv6 gv7 gv8 gv9)) lv0 mv1 y2 gv3 gv4 gv5 gv6 gv7 gv8 gv9 x10 gv11).trans ?_
    simp only [ih]
    kernel_rfl
theorem Q40.s_eq {ρ : Type} (N : Nat) (K : AV → Heap → Option ρ) (lv0 : Int) (mv1 : Int) (y2 : Int) (gv3 : Nat → Int) (gv4 : Nat → Int) (gv5 : Nat → Int) (gv6 : Nat → Int) (gv7 : Nat → Int) (gv8 : Nat → Int) (gv9 : Nat → Int) :
    xbody (E40 N) ents Q40.kp N Try.f83 Q40.bd [.int .i64 (lv0), .int .i64 (mv1), .int .i64 (y2), .sptr [(0, 1)], .sptr [(1, 1)], .sptr [(2, 2)], .sptr [(3, 64)], .sptr [(4, 1)], .sptr [(5, 1)]] [⟨false, .avs [.sptr [(6, 2), (7, 1104)]]⟩, ⟨false, .flat 1 (.ints .i64 gv3)⟩, ⟨false, .flat 2 (.ints .i64 gv4)⟩, ⟨true, .flat 64 (.ints .u8 gv5)⟩, ⟨false, .flat 1 (.ints .i64 gv6)⟩, ⟨false, .flat 1 (.ints .i64 gv7)⟩, ⟨false, .flat 2 (.ints .i64 gv8)⟩, ⟨false, .flat 1104 (.ints .u8 gv9)⟩] K = (Q40.s N (fun d0 => K (.tup []) [⟨false, .avs [.sptr [(6, 2), (7, 1104)]]⟩, ⟨false, .flat 1 (.ints .i64 gv3)⟩, ⟨false, .flat 2 (.ints .i64 gv4)⟩, ⟨true, .flat 64 (.ints .u8 d0)⟩, ⟨false, .flat 1 (.ints .i64 gv6)⟩, ⟨false, .flat 1 (.ints .i64 gv7)⟩, ⟨false, .flat 2 (.ints .i64 gv8)⟩, ⟨false, .flat 1104 (.ints .u8 gv9)⟩]) (fun x10 gv11 => xloop (xcode (E40 N) ents Q40.kp 8 N (cL (cK (cB Q40.bd))) 0) Q40.kp 8 0 N (Q40.st0 lv0 mv1 y2 gv3 gv4 gv6 gv7 gv8 gv9 x10 gv11) (Q40.k0 N K gv3 gv4 gv5 gv6 gv7 gv8 gv9)) lv0 gv3 gv5) := by kernel_rfl
theorem Q40.eq {ρ : Type} (N : Nat) (K : AV → Heap → Option ρ) (lv0 : Int) (mv1 : Int) (y2 : Int) (gv3 : Nat → Int) (gv4 : Nat → Int) (gv5 : Nat → Int) (gv6 : Nat → Int) (gv7 : Nat → Int) (gv8 : Nat → Int) (gv9 : Nat → Int) :
    xbody (E40 N) ents Q40.kp N Try.f83 Q40.bd [.int .i64 (lv0), .int .i64 (mv1), .int .i64 (y2), .sptr [(0, 1)], .sptr [(1, 1)], .sptr [(2, 2)], .sptr [(3, 64)], .sptr [(4, 1)], .sptr [(5, 1)]] [⟨false, .avs [.sptr [(6, 2), (7, 1104)]]⟩, ⟨false, .flat 1 (.ints .i64 gv3)⟩, ⟨false, .flat 2 (.ints .i64 gv4)⟩, ⟨true, .flat 64 (.ints .u8 gv5)⟩, ⟨false, .flat 1 (.ints .i64 gv6)⟩, ⟨false, .flat 1 (.ints .i64 gv7)⟩, ⟨false, .flat 2 (.ints .i64 gv8)⟩, ⟨false, .flat 1104 (.ints .u8 gv9)⟩] K = (Q40 N (fun d0 => K (.tup []) [⟨false, .avs [.sptr [(6, 2), (7, 1104)]]⟩, ⟨false, .flat 1 (.ints .i64 gv3)⟩, ⟨false, .flat 2 (.ints .i64 gv4)⟩, ⟨true, .flat 64 (.ints .u8 d0)⟩, ⟨false, .flat 1 (.ints .i64 gv6)⟩, ⟨false, .flat 1 (.ints .i64 gv7)⟩, ⟨false, .flat 2 (.ints .i64 gv8)⟩, ⟨false, .flat 1104 (.ints .u8 gv9)⟩]) lv0 mv1 y2 gv3 gv4 gv5 gv6 gv7 gv8 gv9) := by
  refine (Q40.s_eq N K lv0 mv1 y2 gv3 gv4 gv5 gv6 gv7 gv8 gv9).trans ?_
  simp only [Q40.l0_eq, Q40.a0_0_eq]
  kernel_rfl
def Q40.en (N : Nat) (ρ : Type) : List AV → Heap → (AV → Heap → Option ρ) → Option ρ
  | [.int .i64 (lv0), .int .i64 (mv1), .int .i64 (y2), .sptr [(0, 1)], .sptr [(1, 1)], .sptr [(2, 2)], .sptr [(3, 64)], .sptr [(4, 1)], .sptr [(5, 1)]], [⟨false, .avs [.sptr [(6, 2), (7, 1104)]]⟩, ⟨false, .flat 1 (.ints .i64 gv3)⟩, ⟨false, .flat 2 (.ints .i64 gv4)⟩, ⟨true, .flat 64 (.ints .u8 gv5)⟩, ⟨false, .flat 1 (.ints .i64 gv6)⟩, ⟨false, .flat 1 (.ints .i64 gv7)⟩, ⟨false, .flat 2 (.ints .i64 gv8)⟩, ⟨false, .flat 1104 (.ints .u8 gv9)⟩], K => (Q40 N (fun d0 => K (.tup []) [⟨false, .avs [.sptr [(6, 2), (7, 1104)]]⟩, ⟨false, .flat 1 (.ints .i64 gv3)⟩, ⟨false, .flat 2 (.ints .i64 gv4)⟩, ⟨true, .flat 64 (.ints .u8 d0)⟩, ⟨false, .flat 1 (.ints .i64 gv6)⟩, ⟨false, .flat 1 (.ints .i64 gv7)⟩, ⟨false, .flat 2 (.ints .i64 gv8)⟩, ⟨false, .flat 1104 (.ints .u8 gv9)⟩]) lv0 mv1 y2 gv3 gv4 gv5 gv6 gv7 gv8 gv9)
  | _, _, _ => none
theorem Q40.en_ok (N : Nat) (hE : EnvOk (E40 N) ents) (ρ : Type) (args : List AV) (sh : Heap) (K : AV → Heap → Option ρ) (r : ρ) (h : Q40.en N ρ args sh K = some r) : ∃ v sh', K v sh' = some r ∧ FnOk (E40 N).P 83 args sh v sh' := by
  unfold Q40.en at h
  split at h
  · exact fn_ok hE (kp := Q40.kp) (N := N) Try.func83 (c := Q40.bd) (by kernel_rfl) ((Q40.eq N _ _ _ _ _ _ _ _ _ _ _).trans h)
  · cases h
def E41 (N : Nat) : Env := (E40 N).add 83 (Q40.en N)
theorem E41_ok (N : Nat) : EnvOk (E41 N) ents := Env.add_ok (E40_ok N) (Q40.en_ok N (E40_ok N))
def Q41.kp : Keeps := ⟨[(0, [0, 1, 7], [], []), (2, [0, 1, 4, 7, 14, 15], [], [])], [(0, [], [], []), (2, [0, 1, 7], [], [])], []⟩
def Q41.bd : Code := bodyOf Try.f81
def Q41.fin {ρ : Type} (N : Nat) (K : AV → Heap → Option ρ) (gv0 : Nat → Int) (gv1 : Nat → Int) (gv2 : Nat → Int) (gv3 : Nat → Int) (gv4 : Nat → Int) (gv5 : Nat → Int) (gv6 : Nat → Int) (gv7 : Nat → Int) : XE → St → Option ρ := finK (E41 N) Q41.kp.fins Try.f81 [⟨false, .flat 64 (.ints .u8 gv0)⟩, ⟨false, .avs [.sptr [(7, 2), (8, 1104)]]⟩, ⟨false, .flat 1 (.ints .i64 gv1)⟩, ⟨false, .flat 2 (.ints .i64 gv2)⟩, ⟨true, .flat 64 (.ints .u8 gv3)⟩, ⟨false, .flat 1 (.ints .i64 gv4)⟩, ⟨false, .flat 1 (.ints .i64 gv5)⟩, ⟨false, .flat 2 (.ints .i64 gv6)⟩, ⟨false, .flat 1104 (.ints .u8 gv7)⟩] K
def Q41.k0 {ρ : Type} (N : Nat) (K : AV → Heap → Option ρ) (gv0 : Nat → Int) (gv1 : Nat → Int) (gv2 : Nat → Int) (gv3 : Nat → Int) (gv4 : Nat → Int) (gv5 : Nat → Int) (gv6 : Nat → Int) (gv7 : Nat → Int) : XE → St → Option ρ := (blockK Q41.kp 9 0 (Q41.fin N K gv0 gv1 gv2 gv3 gv4 gv5 gv6 gv7))
theorem Q41.k0_mix {ρ : Type} (N : Nat) (K : AV → Heap → Option ρ) (gv0 : Nat → Int) (gv1 : Nat → Int) (gv2 : Nat → Int) (gv3 : Nat → Int) (gv4 : Nat → Int) (gv5 : Nat → Int) (gv6 : Nat → Int) (gv7 : Nat → Int) : mixK (Q41.fin N K gv0 gv1 gv2 gv3 gv4 gv5 gv6 gv7 .ret) (Q41.k0 N K gv0 gv1 gv2 gv3 gv4 gv5 gv6 gv7) = (Q41.k0 N K gv0 gv1 gv2 gv3 gv4 gv5 gv6 gv7) := by
  funext e s; cases e <;> kernel_rfl
def Q41.st0 (gv0 : Nat → Int) (gv1 : Nat → Int) (gv2 : Nat → Int) (gv4 : Nat → Int) (gv5 : Nat → Int) (gv6 : Nat → Int) (gv7 : Nat → Int) (x8 : Int) (gv9 : Nat → Int) : St := ⟨sl 29 [(0, .sptr [(0, 64)]), (1, .fn 83 0 [[(1, 1)], [(2, 1)], [(3, 2)], [(4, 64)], [(5, 1)], [(6, 1)]]), (7, .int .i64 (x8))], [⟨false, .flat 64 (.ints .u8 gv0)⟩, ⟨false, .avs [.sptr [(7, 2), (8, 1104)]]⟩, ⟨false, .flat 1 (.ints .i64 gv1)⟩, ⟨false, .flat 2 (.ints .i64 gv2)⟩, ⟨true, .flat 64 (.ints .u8 gv9)⟩, ⟨false, .flat 1 (.ints .i64 gv4)⟩, ⟨false, .flat 1 (.ints .i64 gv5)⟩, ⟨false, .flat 2 (.ints .i64 gv6)⟩, ⟨false, .flat 1104 (.ints .u8 gv7)⟩]⟩
def Q41.sx0_0 (gv0 : Nat → Int) (gv1 : Nat → Int) (gv2 : Nat → Int) (gv4 : Nat → Int) (gv5 : Nat → Int) (gv6 : Nat → Int) (gv7 : Nat → Int) (ov14 : Nat → Int) : St := ⟨sl 29 [], [⟨false, .flat 64 (.ints .u8 gv0)⟩, ⟨false, .avs [.sptr [(7, 2), (8, 1104)]]⟩, ⟨false, .flat 1 (.ints .i64 gv1)⟩, ⟨false, .flat 2 (.ints .i64 gv2)⟩, ⟨true, .flat 64 (.ints .u8 ov14)⟩, ⟨false, .flat 1 (.ints .i64 gv4)⟩, ⟨false, .flat 1 (.ints .i64 gv5)⟩, ⟨false, .flat 2 (.ints .i64 gv6)⟩, ⟨false, .flat 1104 (.ints .u8 gv7)⟩]⟩
def Q41.k1g {ρ : Type} (N : Nat) (L0 : St → Option ρ) (kv : XE → St → Option ρ) : XE → St → Option ρ := (blockK Q41.kp 9 2 (blockK Q41.kp 9 1 (seqK (xcode (E41 N) ents Q41.kp 9 N (cB (cB (cB (cL (cK (cB Q41.bd)))))) 0) (roundK Q41.kp 9 0 L0 kv))))
theorem Q41.k1_mix {ρ : Type} (N : Nat) (K : AV → Heap → Option ρ) (L0 : St → Option ρ) (gv0 : Nat → Int) (gv1 : Nat → Int) (gv2 : Nat → Int) (gv3 : Nat → Int) (gv4 : Nat → Int) (gv5 : Nat → Int) (gv6 : Nat → Int) (gv7 : Nat → Int) : mixK (Q41.fin N K gv0 gv1 gv2 gv3 gv4 gv5 gv6 gv7 .ret) (Q41.k1g N L0 (Q41.k0 N K gv0 gv1 gv2 gv3 gv4 gv5 gv6 gv7)) = (Q41.k1g N L0 (Q41.k0 N K gv0 gv1 gv2 gv3 gv4 gv5 gv6 gv7)) := by
  funext e s; cases e <;> kernel_rfl
def Q41.st1 (gv0 : Nat → Int) (gv1 : Nat → Int) (gv2 : Nat → Int) (gv4 : Nat → Int) (gv5 : Nat → Int) (gv6 : Nat → Int) (gv7 : Nat → Int) (x8 : Int) (x10 : Int) (gv11 : Nat → Int) : St := ⟨sl 29 [(0, .sptr [(0, 64)]), (1, .fn 83 0 [[(1, 1)], [(2, 1)], [(3, 2)], [(4, 64)], [(5, 1)], [(6, 1)]]), (4, .int .i64 (x8)), (7, .int .i64 (x8)), (14, .agg [⟨.u8, 8, (fun z => (gv0 ((x8.toNat * 8) + z)))⟩]), (15, .int .i64 (x10))], [⟨false, .flat 64 (.ints .u8 gv0)⟩, ⟨false, .avs [.sptr [(7, 2), (8, 1104)]]⟩, ⟨false, .flat 1 (.ints .i64 gv1)⟩, ⟨false, .flat 2 (.ints .i64 gv2)⟩, ⟨true, .flat 64 (.ints .u8 gv11)⟩, ⟨false, .flat 1 (.ints .i64 gv4)⟩, ⟨false, .flat 1 (.ints .i64 gv5)⟩, ⟨false, .flat 2 (.ints .i64 gv6)⟩, ⟨false, .flat 1104 (.ints .u8 gv7)⟩]⟩
def Q41.sx1_0 (gv0 : Nat → Int) (gv1 : Nat → Int) (gv2 : Nat → Int) (gv4 : Nat → Int) (gv5 : Nat → Int) (gv6 : Nat → Int) (gv7 : Nat → Int) (x8 : Int) (ov13 : Nat → Int) : St := ⟨sl 29 [(0, .sptr [(0, 64)]), (1, .fn 83 0 [[(1, 1)], [(2, 1)], [(3, 2)], [(4, 64)], [(5, 1)], [(6, 1)]]), (7, .int .i64 (x8))], [⟨false, .flat 64 (.ints .u8 gv0)⟩, ⟨false, .avs [.sptr [(7, 2), (8, 1104)]]⟩, ⟨false, .flat 1 (.ints .i64 gv1)⟩, ⟨false, .flat 2 (.ints .i64 gv2)⟩, ⟨true, .flat 64 (.ints .u8 ov13)⟩, ⟨false, .flat 1 (.ints .i64 gv4)⟩, ⟨false, .flat 1 (.ints .i64 gv5)⟩, ⟨false, .flat 2 (.ints .i64 gv6)⟩, ⟨false, .flat 1104 (.ints .u8 gv7)⟩]⟩
theorem Q41.b1_gen {ρ : Type} (N : Nat) (K : AV → Heap → Option ρ) (L1 : St → Option ρ) (kv : XE → St → Option ρ) (gv0 : Nat → Int) (gv1 : Nat → Int) (gv2 : Nat → Int) (gv3 : Nat → Int) (gv4 : Nat → Int) (gv5 : Nat → Int) (gv6 : Nat → Int) (gv7 : Nat → Int) (x8 : Int) (x10 : Int) (gv11 : Nat → Int) :
    xcode (E41 N) ents Q41.kp 9 N (cL (cK (cB (cB (cK (cA (cB (cB (cL (cK (cB Q41.bd))))))))))) 2 (Q41.st1 gv0 gv1 gv2 gv4 gv5 gv6 gv7 x8 x10 gv11) (roundK Q41.kp 9 2 L1 (mixK (Q41.fin N K gv0 gv1 gv2 gv3 gv4 gv5 gv6 gv7 .ret) kv)) = (Q41.b1 N (fun d0 => K (.tup []) [⟨false, .flat 64 (.ints .u8 gv0)⟩, ⟨false, .avs [.sptr [(7, 2), (8, 1104)]]⟩, ⟨false, .flat 1 (.ints .i64 gv1)⟩, ⟨false, .flat 2 (.ints .i64 gv2)⟩, ⟨true, .flat 64 (.ints .u8 d0)⟩, ⟨false, .flat 1 (.ints .i64 gv4)⟩, ⟨false, .flat 1 (.ints .i64 gv5)⟩, ⟨false, .flat 2 (.ints .i64 gv6)⟩, ⟨false, .flat 1104 (.ints .u8 gv7)⟩]) (fun x10 gv11 => L1 (Q41.st1 gv0 gv1 gv2 gv4 gv5 gv6 gv7 x8 x10 gv11)) (fun ov13 => kv (.exit 2) (Q41.sx1_0 gv0 gv1 gv2 gv4 gv5 gv6 gv7 x8 ov13)) gv0 gv1 gv2 gv4 gv5 gv6 gv7 x8 x10 gv11) := by kernel_rfl
theorem Q41.b1_eq {ρ : Type} (N : Nat) (K : AV → Heap → Option ρ) (L0 : St → Option ρ) (L1 : St → Option ρ) (gv0 : Nat → Int) (gv1 : Nat → Int) (gv2 : Nat → Int) (gv3 : Nat → Int) (gv4 : Nat → Int) (gv5 : Nat → Int) (gv6 : Nat → Int) (gv7 : Nat → Int) (x8 : Int) (x10 : Int) (gv11 : Nat → Int) :
    xcode (E41 N) ents Q41.kp 9 N (cL (cK (cB (cB (cK (cA (cB (cB (cL (cK (cB Q41.bd))))))))))) 2 (Q41.st1 gv0 gv1 gv2 gv4 gv5 gv6 gv7 x8 x10 gv11) (roundK Q41.kp 9 2 L1 (Q41.k1g N L0 (Q41.k0 N K gv0 gv1 gv2 gv3 gv4 gv5 gv6 gv7))) = (Q41.b1 N (fun d0 => K (.tup []) [⟨false, .flat 64 (.ints .u8 gv0)⟩, ⟨false, .avs [.sptr [(7, 2), (8, 1104)]]⟩, ⟨false, .flat 1 (.ints .i64 gv1)⟩, ⟨false, .flat 2 (.ints .i64 gv2)⟩, ⟨true, .flat 64 (.ints .u8 d0)⟩, ⟨false, .flat 1 (.ints .i64 gv4)⟩, ⟨false, .flat 1 (.ints .i64 gv5)⟩, ⟨false, .flat 2 (.ints .i64 gv6)⟩, ⟨false, .flat 1104 (.ints .u8 gv7)⟩]) (fun x10 gv11 => L1 (Q41.st1 gv0 gv1 gv2 gv4 gv5 gv6 gv7 x8 x10 gv11)) (fun ov13 => (Q41.k1g N L0 (Q41.k0 N K gv0 gv1 gv2 gv3 gv4 gv5 gv6 gv7)) (.exit 2) (Q41.sx1_0 gv0 gv1 gv2 gv4 gv5 gv6 gv7 x8 ov13)) gv0 gv1 gv2 gv4 gv5 gv6 gv7 x8 x10 gv11) := by
  have h := Q41.b1_gen N K L1 (Q41.k1g N L0 (Q41.k0 N K gv0 gv1 gv2 gv3 gv4 gv5 gv6 gv7)) gv0 gv1 gv2 gv3 gv4 gv5 gv6 gv7 x8 x10 gv11
  rw [Q41.k1_mix] at h
  exact h
theorem Q41.a1_0_gen {ρ : Type} (N : Nat) (K : AV → Heap → Option ρ) (L0 : St → Option ρ) (kv : XE → St → Option ρ) (gv0 : Nat → Int) (gv1 : Nat → Int) (gv2 : Nat → Int) (gv3 : Nat → Int) (gv4 : Nat → Int) (gv5 : Nat → Int) (gv6 : Nat → Int) (gv7 : Nat → Int) (x8 : Int) (ov13 : Nat → Int) :
    (Q41.k1g N L0 (mixK (Q41.fin N K gv0 gv1 gv2 gv3 gv4 gv5 gv6 gv7 .ret) kv)) (.exit 2) (Q41.sx1_0 gv0 gv1 gv2 gv4 gv5 gv6 gv7 x8 ov13) = (Q41.a1_0 N (fun d0 => K (.tup []) [⟨false, .flat 64 (.ints .u8 gv0)⟩, ⟨false, .avs [.sptr [(7, 2), (8, 1104)]]⟩, ⟨false, .flat 1 (.ints .i64 gv1)⟩, ⟨false, .flat 2 (.ints .i64 gv2)⟩, ⟨true, .flat 64 (.ints .u8 d0)⟩, ⟨false, .flat 1 (.ints .i64 gv4)⟩, ⟨false, .flat 1 (.ints .i64 gv5)⟩, ⟨false, .flat 2 (.ints .i64 gv6)⟩, ⟨false, .flat 1104 (.ints .u8 gv7)⟩]) (fun x8 gv9 => L0 (Q41.st0 gv0 gv1 gv2 gv4 gv5 gv6 gv7 x8 gv9)) (fun ov14 => kv (.exit 0) (Q41.sx0_0 gv0 gv1 gv2 gv4 gv5 gv6 gv7 ov14)) x8 ov13) := by kernel_rfl
theorem Q41.a1_0_eq {ρ : Type} (N : Nat) (K : AV → Heap → Option ρ) (L0 : St → Option ρ) (gv0 : Nat → Int) (gv1 : Nat → Int) (gv2 : Nat → Int) (gv3 : Nat → Int) (gv4 : Nat → Int) (gv5 : Nat → Int) (gv6 : Nat → Int) (gv7 : Nat → Int) (x8 : Int) (ov13 : Nat → Int) :
    (Q41.k1g N L0 (Q41.k0 N K gv0 gv1 gv2 gv3 gv4 gv5 gv6 gv7)) (.exit 2) (Q41.sx1_0 gv0 gv1 gv2 gv4 gv5 gv6 gv7 x8 ov13) = (Q41.a1_0 N (fun d0 => K (.tup []) [⟨false, .flat 64 (.ints .u8 gv0)⟩, ⟨false, .avs [.sptr [(7, 2), (8, 1104)]]⟩, ⟨false, .flat 1 (.ints .i64 gv1)⟩, ⟨false, .flat 2 (.ints .i64 gv2)⟩, ⟨true, .flat 64 (.ints .u8 d0)⟩, ⟨false, .flat 1 (.ints .i64 gv4)⟩, ⟨false, .flat 1 (.ints .i64 gv5)⟩, ⟨false, .flat 2 (.ints .i64 gv6)⟩, ⟨false, .flat 1104 (.ints .u8 gv7)⟩]) (fun x8 gv9 => L0 (Q41.st0 gv0 gv1 gv2 gv4 gv5 gv6 gv7 x8 gv9)) (fun ov14 => (Q41.k0 N K gv0 gv1 gv2 gv3 gv4 gv5 gv6 gv7) (.exit 0) (Q41.sx0_0 gv0 gv1 gv2 gv4 gv5 gv6 gv7 ov14)) x8 ov13) := by
  have h := Q41.a1_0_gen N K L0 (Q41.k0 N K gv0 gv1 gv2 gv3 gv4 gv5 gv6 gv7) gv0 gv1 gv2 gv3 gv4 gv5 gv6 gv7 x8 ov13
  rw [Q41.k0_mix] at h
  exact h
theorem Q41.b0_gen {ρ : Type} (N : Nat) (K : AV → Heap → Option ρ) (L0 : St → Option ρ) (kv : XE → St → Option ρ) (gv0 : Nat → Int) (gv1 : Nat → Int) (gv2 : Nat → Int) (gv3 : Nat → Int) (gv4 : Nat → Int) (gv5 : Nat → Int) (gv6 : Nat → Int) (gv7 : Nat → Int) (x8 : Int) (gv9 : Nat → Int) :
    xcode (E41 N) ents Q41.kp 9 N (cL (cK (cB Q41.bd))) 0 (Q41.st0 gv0 gv1 gv2 gv4 gv5 gv6 gv7 x8 gv9) (roundK Q41.kp 9 0 L0 (mixK (Q41.fin N K gv0 gv1 gv2 gv3 gv4 gv5 gv6 gv7 .ret) kv)) = (Q41.b0 N (fun d0 => K (.tup []) [⟨false, .flat 64 (.ints .u8 gv0)⟩, ⟨false, .avs [.sptr [(7, 2), (8, 1104)]]⟩, ⟨false, .flat 1 (.ints .i64 gv1)⟩, ⟨false, .flat 2 (.ints .i64 gv2)⟩, ⟨true, .flat 64 (.ints .u8 d0)⟩, ⟨false, .flat 1 (.ints .i64 gv4)⟩, ⟨false, .flat 1 (.ints .i64 gv5)⟩, ⟨false, .flat 2 (.ints .i64 gv6)⟩, ⟨false, .flat 1104 (.ints .u8 gv7)⟩]) (fun x10 gv11 => xloop (xcode (E41 N) ents Q41.kp 9 N (cL (cK (cB (cB (cK (cA (cB (cB (cL (cK (cB Q41.bd))))))))))) 2) Q41.kp 9 2 N (Q41.st1 gv0 gv1 gv2 gv4 gv5 gv6 gv7 x8 x10 gv11) (Q41.k1g N L0 (mixK (Q41.fin N K gv0 gv1 gv2 gv3 gv4 gv5 gv6 gv7 .ret) kv))) (fun x8 gv9 => L0 (Q41.st0 gv0 gv1 gv2 gv4 gv5 gv6 gv7 x8 gv9)) (fun ov14 => kv (.exit 0) (Q41.sx0_0 gv0 gv1 gv2 gv4 gv5 gv6 gv7 ov14)) x8 gv9) := by kernel_rfl
theorem Q41.b0_eq {ρ : Type} (N : Nat) (K : AV → Heap → Option ρ) (L0 : St → Option ρ) (gv0 : Nat → Int) (gv1 : Nat → Int) (gv2 : Nat → Int) (gv3 : Nat → Int) (gv4 : Nat → Int) (gv5 : Nat → Int) (gv6 : Nat → Int) (gv7 : Nat → Int) (x8 : Int) (gv9 : Nat → Int) :
    xcode (E41 N) ents Q41.kp 9 N (cL (cK (cB Q41.bd))) 0 (Q41.st0 gv0 gv1 gv2 gv4 gv5 gv6 gv7 x8 gv9) (roundK Q41.kp 9 0 L0 (Q41.k0 N K gv0 gv1 gv2 gv3 gv4 gv5 gv6 gv7)) = (Q41.b0 N (fun d0 => K (.tup []) [⟨false, .flat 64 (.ints .u8 gv0)⟩, ⟨false, .avs [.sptr [(7, 2), (8, 1104)]]⟩, ⟨false, .flat 1 (.ints .i64 gv1)⟩, ⟨false, .flat 2 (.ints .i64 gv2)⟩, ⟨true, .flat 64 (.ints .u8 d0)⟩, ⟨false, .flat 1 (.ints .i64 gv4)⟩, ⟨false, .flat 1 (.ints .i64 gv5)⟩, ⟨false, .flat 2 (.ints .i64 gv6)⟩, ⟨false, .flat 1104 (.ints .u8 gv7)⟩]) (fun x10 gv11 => xloop (xcode (E41 N) ents Q41.kp 9 N (cL (cK (cB (cB (cK (cA (cB (cB (cL (cK (cB Q41.bd))))))))))) 2) Q41.kp 9 2 N (Q41.st1 gv0 gv1 gv2 gv4 gv5 gv6 gv7 x8 x10 gv11) (Q41.k1g N L0 (Q41.k0 N K gv0 gv1 gv2 gv3 gv4 gv5 gv6 gv7))) (fun x8 gv9 => L0 (Q41.st0 gv0 gv1 gv2 gv4 gv5 gv6 gv7 x8 gv9)) (fun ov14 => (Q41.k0 N K gv0 gv1 gv2 gv3 gv4 gv5 gv6 gv7) (.exit 0) (Q41.sx0_0 gv0 gv1 gv2 gv4 gv5 gv6 gv7 ov14)) x8 gv9) := by
  have h := Q41.b0_gen N K L0 (Q41.k0 N K gv0 gv1 gv2 gv3 gv4 gv5 gv6 gv7) gv0 gv1 gv2 gv3 gv4 gv5 gv6 gv7 x8 gv9
  rw [Q41.k0_mix] at h
  exact h
theorem Q41.a0_0_eq {ρ : Type} (N : Nat) (K : AV → Heap → Option ρ) (gv0 : Nat → Int) (gv1 : Nat → Int) (gv2 : Nat → Int) (gv3 : Nat → Int) (gv4 : Nat → Int) (gv5 : Nat → Int) (gv6 : Nat → Int) (gv7 : Nat → Int) (ov14 : Nat → Int) :
    (Q41.k0 N K gv0 gv1 gv2 gv3 gv4 gv5 gv6 gv7) (.exit 0) (Q41.sx0_0 gv0 gv1 gv2 gv4 gv5 gv6 gv7 ov14) = (Q41.a0_0 N (fun d0 => K (.tup []) [⟨false, .flat 64 (.ints .u8 gv0)⟩, ⟨false, .avs [.sptr [(7, 2), (8, 1104)]]⟩, ⟨false, .flat 1 (.ints .i64 gv1)⟩, ⟨false, .flat 2 (.ints .i64 gv2)⟩, ⟨true, .flat 64 (.ints .u8 d0)⟩, ⟨false, .flat 1 (.ints .i64 gv4)⟩, ⟨false, .flat 1 (.ints .i64 gv5)⟩, ⟨false, .flat 2 (.ints .i64 gv6)⟩, ⟨false, .flat 1104 (.ints .u8 gv7)⟩]) ov14) := by kernel_rfl
theorem Q41.l1_eq {ρ : Type} (N : Nat) (K : AV → Heap → Option ρ) (L0 : St → Option ρ) (gv0 : Nat → Int) (gv1 : Nat → Int) (gv2 : Nat → Int) (gv3 : Nat → Int) (gv4 : Nat → Int) (gv5 : Nat → Int) (gv6 : Nat → Int) (gv7 : Nat → Int) (x8 : Int) :
    ∀ (m : Nat) (x10 : Int) (gv11 : Nat → Int), xloop (xcode (E41 N) ents Q41.kp 9 N (cL (cK (cB (cB (cK (cA (cB (cB (cL (cK (cB Q41.bd))))))))))) 2) Q41.kp 9 2 m (Q41.st1 gv0 gv1 gv2 gv4 gv5 gv6 gv7 x8 x10 gv11) (Q41.k1g N L0 (Q41.k0 N K gv0 gv1 gv2 gv3 gv4 gv5 gv6 gv7)) = (Q41.l1 N (fun d0 => K (.tup []) [⟨false, .flat 64 (.ints .u8 gv0)⟩, ⟨false, .avs [.sptr [(7, 2), (8, 1104)]]⟩, ⟨false, .flat 1 (.ints .i64 gv1)⟩, ⟨false, .flat 2 (.ints .i64 gv2)⟩, ⟨true, .flat 64 (.ints .u8 d0)⟩, ⟨false, .flat 1 (.ints .i64 gv4)⟩, ⟨false, .flat 1 (.ints .i64 gv5)⟩, ⟨false, .flat 2 (.ints .i64 gv6)⟩, ⟨false, .flat 1104 (.ints .u8 gv7)⟩]) gv0 gv1 gv2 gv4 gv5 gv6 gv7 x8 (fun ov13 => (Q41.k1g N L0 (Q41.k0 N K gv0 gv1 gv2 gv3 gv4 gv5 gv6 gv7)) (.exit 2) (Q41.sx1_0 gv0 gv1 gv2 gv4 gv5 gv6 gv7 x8 ov13)) m x10 gv11) := by
  intro m
  induction m with
  | zero => intros; rfl
  | succ m ih =>
    intro x10 gv11
    refine (Q41.b1_eq N K L0 (fun s => xloop (xcode (E41 N) ents Q41.kp 9 N (cL (cK (cB (cB (cK (cA (cB (cB (cL (cK (cB Q41.bd))))))))))) 2) Q41.kp 9 2 m s (Q41.k1g N L0 (Q41.k0 N K gv0 gv1 gv2 gv3 gv4 gv5 gv6 gv7))) gv0 gv1 gv2 gv3 gv4 gv5 gv6 gv7 x8 x10 gv11).trans ?_
    simp only [ih]
    kernel_rfl
theorem Q41.l0_eq {ρ : Type} (N : Nat) (K : AV → Heap → Option ρ) (gv0 : Nat → Int) (gv1 : Nat → Int) (gv2 : Nat → Int) (gv3 : Nat → Int) (gv4 : Nat → Int) (gv5 : Nat → Int) (gv6 : Nat → Int) (gv7 : Nat → Int) :
    ∀ (m : Nat) (x8 : Int) (gv9 : Nat → Int), xloop (xcode (E41 N) ents Q41.kp 9 N (cL (cK (cB Q41.bd))) 0) Q41.kp 9 0 m (Q41.st0 gv0 gv1 gv2 gv4 gv5 gv6 gv7 x8 gv9) (Q41.k0 N K gv0 gv1 gv2 gv3 gv4 gv5 gv6 gv7) = (Q41.l0 N (fun d0 => K (.tup []) [⟨false, .flat 64 (.ints .u8 gv0)⟩, ⟨false, .avs [.sptr [(7, 2), (8, 1104)]]⟩, ⟨false, .flat 1 (.ints .i64 gv1)⟩, ⟨false, .flat 2 (.ints .i64 gv2)⟩, ⟨true, .flat 64 (.ints .u8 d0)⟩, ⟨false, .flat 1 (.ints .i64 gv4)⟩, ⟨false, .flat 1 (.ints .i64 gv5)⟩, ⟨false, .flat 2 (.ints .i64 gv6)⟩, ⟨false, .flat 1104 (.ints .u8 gv7)⟩]) gv0 gv1 gv2 gv4 gv5 gv6 gv7 (fun ov14 => (Q41.k0 N K gv0 gv1 gv2 gv3 gv4 gv5 gv6 gv7) (.exit 0) (Q41.sx0_0 gv0 gv1 gv2 gv4 gv5 gv6 gv7 ov14)) m x8 gv9) := by
  intro m
  induction m with
  | zero => intros; rfl
  | succ m ih =>
    intro x8 gv9
    refine (Q41.b0_eq N K (fun s => xloop (xcode (E41 N) ents Q41.kp 9 N (cL (cK (cB Q41.bd))) 0) Q41.kp 9 0 m s (Q41.k0 N K gv0 gv1 gv2 gv3 gv4 gv5 gv6 gv7)) gv0 gv1 gv2 gv3 gv4 gv5 gv6 gv7 x8 gv9).trans ?_
    simp only [ih, Q41.l1_eq, Q41.a1_0_eq]
    kernel_rfl
theorem Q41.s_eq {ρ : Type} (N : Nat) (K : AV → Heap → Option ρ) (gv0 : Nat → Int) (gv1 : Nat → Int) (gv2 : Nat → Int) (gv3 : Nat → Int) (gv4 : Nat → Int) (gv5 : Nat → Int) (gv6 : Nat → Int) (gv7 : Nat → Int) :
    xbody (E41 N) ents Q41.kp N Try.f81 Q41.bd [.sptr [(0, 64)], .fn 83 0 [[(1, 1)], [(2, 1)], [(3, 2)], [(4, 64)], [(5, 1)], [(6, 1)]]] [⟨false, .flat 64 (.ints .u8 gv0)⟩, ⟨false, .avs [.sptr [(7, 2), (8, 1104)]]⟩, ⟨false, .flat 1 (.ints .i64 gv1)⟩, ⟨false, .flat 2 (.ints .i64 gv2)⟩, ⟨true, .flat 64 (.ints .u8 gv3)⟩, ⟨false, .flat 1 (.ints .i64 gv4)⟩, ⟨false, .flat 1 (.ints .i64 gv5)⟩, ⟨false, .flat 2 (.ints .i64 gv6)⟩, ⟨false, .flat 1104 (.ints .u8 gv7)⟩] K = (Q41.s N (fun d0 => K (.tup []) [⟨false, .flat 64 (.ints .u8 gv0)⟩, ⟨false, .avs [.sptr [(7, 2), (8, 1104)]]⟩, ⟨false, .flat 1 (.ints .i64 gv1)⟩, ⟨false, .flat 2 (.ints .i64 gv2)⟩, ⟨true, .flat 64 (.ints .u8 d0)⟩, ⟨false, .flat 1 (.ints .i64 gv4)⟩, ⟨false, .flat 1 (.ints .i64 gv5)⟩, ⟨false, .flat 2 (.ints .i64 gv6)⟩, ⟨false, .flat 1104 (.ints .u8 gv7)⟩]) (fun x8 gv9 => xloop (xcode (E41 N) ents Q41.kp 9 N (cL (cK (cB Q41.bd))) 0) Q41.kp 9 0 N (Q41.st0 gv0 gv1 gv2 gv4 gv5 gv6 gv7 x8 gv9) (Q41.k0 N K gv0 gv1 gv2 gv3 gv4 gv5 gv6 gv7)) gv3) := by kernel_rfl
theorem Q41.eq {ρ : Type} (N : Nat) (K : AV → Heap → Option ρ) (gv0 : Nat → Int) (gv1 : Nat → Int) (gv2 : Nat → Int) (gv3 : Nat → Int) (gv4 : Nat → Int) (gv5 : Nat → Int) (gv6 : Nat → Int) (gv7 : Nat → Int) :
    xbody (E41 N) ents Q41.kp N Try.f81 Q41.bd [.sptr [(0, 64)], .fn 83 0 [[(1, 1)], [(2, 1)], [(3, 2)], [(4, 64)], [(5, 1)], [(6, 1)]]] [⟨false, .flat 64 (.ints .u8 gv0)⟩, ⟨false, .avs [.sptr [(7, 2), (8, 1104)]]⟩, ⟨false, .flat 1 (.ints .i64 gv1)⟩, ⟨false, .flat 2 (.ints .i64 gv2)⟩, ⟨true, .flat 64 (.ints .u8 gv3)⟩, ⟨false, .flat 1 (.ints .i64 gv4)⟩, ⟨false, .flat 1 (.ints .i64 gv5)⟩, ⟨false, .flat 2 (.ints .i64 gv6)⟩, ⟨false, .flat 1104 (.ints .u8 gv7)⟩] K = (Q41 N (fun d0 => K (.tup []) [⟨false, .flat 64 (.ints .u8 gv0)⟩, ⟨false, .avs [.sptr [(7, 2), (8, 1104)]]⟩, ⟨false, .flat 1 (.ints .i64 gv1)⟩, ⟨false, .flat 2 (.ints .i64 gv2)⟩, ⟨true, .flat 64 (.ints .u8 d0)⟩, ⟨false, .flat 1 (.ints .i64 gv4)⟩, ⟨false, .flat 1 (.ints .i64 gv5)⟩, ⟨false, .flat 2 (.ints .i64 gv6)⟩, ⟨false, .flat 1104 (.ints .u8 gv7)⟩]) gv0 gv1 gv2 gv3 gv4 gv5 gv6 gv7) := by
  refine (Q41.s_eq N K gv0 gv1 gv2 gv3 gv4 gv5 gv6 gv7).trans ?_
  simp only [Q41.l0_eq, Q41.a0_0_eq]
  kernel_rfl
def Q41.en (N : Nat) (ρ : Type) : List AV → Heap → (AV → Heap → Option ρ) → Option ρ
  | [.sptr [(0, 64)], .fn 83 0 [[(1, 1)], [(2, 1)], [(3, 2)], [(4, 64)], [(5, 1)], [(6, 1)]]], [⟨false, .flat 64 (.ints .u8 gv0)⟩, ⟨false, .avs [.sptr [(7, 2), (8, 1104)]]⟩, ⟨false, .flat 1 (.ints .i64 gv1)⟩, ⟨false, .flat 2 (.ints .i64 gv2)⟩, ⟨true, .flat 64 (.ints .u8 gv3)⟩, ⟨false, .flat 1 (.ints .i64 gv4)⟩, ⟨false, .flat 1 (.ints .i64 gv5)⟩, ⟨false, .flat 2 (.ints .i64 gv6)⟩, ⟨false, .flat 1104 (.ints .u8 gv7)⟩], K => (Q41 N (fun d0 => K (.tup []) [⟨false, .flat 64 (.ints .u8 gv0)⟩, ⟨false, .avs [.sptr [(7, 2), (8, 1104)]]⟩, ⟨false, .flat 1 (.ints .i64 gv1)⟩, ⟨false, .flat 2 (.ints .i64 gv2)⟩, ⟨true, .flat 64 (.ints .u8 d0)⟩, ⟨false, .flat 1 (.ints .i64 gv4)⟩, ⟨false, .flat 1 (.ints .i64 gv5)⟩, ⟨false, .flat 2 (.ints .i64 gv6)⟩, ⟨false, .flat 1104 (.ints .u8 gv7)⟩]) gv0 gv1 gv2 gv3 gv4 gv5 gv6 gv7)
  | _, _, _ => none
theorem Q41.en_ok (N : Nat) (hE : EnvOk (E41 N) ents) (ρ : Type) (args : List AV) (sh : Heap) (K : AV → Heap → Option ρ) (r : ρ) (h : Q41.en N ρ args sh K = some r) : ∃ v sh', K v sh' = some r ∧ FnOk (E41 N).P 81 args sh v sh' := by
  unfold Q41.en at h
  split at h
  · exact fn_ok hE (kp := Q41.kp) (N := N) Try.func81 (c := Q41.bd) (by kernel_rfl) ((Q41.eq N _ _ _ _ _ _ _ _ _).trans h)
  · cases h
def E42 (N : Nat) : Env := (E41 N).add 81 (Q41.en N)
theorem E42_ok (N : Nat) : EnvOk (E42 N) ents := Env.add_ok (E41_ok N) (Q41.en_ok N (E41_ok N))
def Q42.kp : Keeps := ⟨[], [], []⟩
def Q42.bd : Code := bodyOf Try.f82
def Q42.fin {ρ : Type} (N : Nat) (K : AV → Heap → Option ρ) (gv3 : Nat → Int) (gv4 : Nat → Int) (gv5 : Nat → Int) (gv6 : Nat → Int) (gv7 : Nat → Int) : XE → St → Option ρ := finK (E42 N) Q42.kp.fins Try.f82 [⟨false, .avs [.sptr [(4, 64)]]⟩, ⟨false, .avs [.sptr [(5, 2), (6, 1104)]]⟩, ⟨false, .flat 2 (.ints .i64 gv3)⟩, ⟨true, .flat 64 (.ints .u8 gv4)⟩, ⟨false, .flat 64 (.ints .u8 gv5)⟩, ⟨false, .flat 2 (.ints .i64 gv6)⟩, ⟨false, .flat 1104 (.ints .u8 gv7)⟩] K
theorem Q42.eq {ρ : Type} (N : Nat) (K : AV → Heap → Option ρ) (j0 : Int) (k1 : Int) (x2 : Int) (gv3 : Nat → Int) (gv4 : Nat → Int) (gv5 : Nat → Int) (gv6 : Nat → Int) (gv7 : Nat → Int) :
    xbody (E42 N) ents Q42.kp N Try.f82 Q42.bd [.int .i64 (j0), .int .i64 (k1), .int .i64 (x2), .sptr [(0, 1)], .sptr [(1, 1)], .sptr [(2, 2)], .sptr [(3, 64)]] [⟨false, .avs [.sptr [(4, 64)]]⟩, ⟨false, .avs [.sptr [(5, 2), (6, 1104)]]⟩, ⟨false, .flat 2 (.ints .i64 gv3)⟩, ⟨true, .flat 64 (.ints .u8 gv4)⟩, ⟨false, .flat 64 (.ints .u8 gv5)⟩, ⟨false, .flat 2 (.ints .i64 gv6)⟩, ⟨false, .flat 1104 (.ints .u8 gv7)⟩] K = (Q42 N (fun d0 => K (.tup []) [⟨false, .avs [.sptr [(4, 64)]]⟩, ⟨false, .avs [.sptr [(5, 2), (6, 1104)]]⟩, ⟨false, .flat 2 (.ints .i64 gv3)⟩, ⟨true, .flat 64 (.ints .u8 d0)⟩, ⟨false, .flat 64 (.ints .u8 gv5)⟩, ⟨false, .flat 2 (.ints .i64 gv6)⟩, ⟨false, .flat 1104 (.ints .u8 gv7)⟩]) j0 k1 x2 gv3 gv4 gv5 gv6 gv7) := by kernel_rfl
def Q42.en (N : Nat) (ρ : Type) : List AV → Heap → (AV → Heap → Option ρ) → Option ρ
  | [.int .i64 (j0), .int .i64 (k1), .int .i64 (x2), .sptr [(0, 1)], .sptr [(1, 1)], .sptr [(2, 2)], .sptr [(3, 64)]], [⟨false, .avs [.sptr [(4, 64)]]⟩, ⟨false, .avs [.sptr [(5, 2), (6, 1104)]]⟩, ⟨false, .flat 2 (.ints .i64 gv3)⟩, ⟨true, .flat 64 (.ints .u8 gv4)⟩, ⟨false, .flat 64 (.ints .u8 gv5)⟩, ⟨false, .flat 2 (.ints .i64 gv6)⟩, ⟨false, .flat 1104 (.ints .u8 gv7)⟩], K => (Q42 N (fun d0 => K (.tup []) [⟨false, .avs [.sptr [(4, 64)]]⟩, ⟨false, .avs [.sptr [(5, 2), (6, 1104)]]⟩, ⟨false, .flat 2 (.ints .i64 gv3)⟩, ⟨true, .flat 64 (.ints .u8 d0)⟩, ⟨false, .flat 64 (.ints .u8 gv5)⟩, ⟨false, .flat 2 (.ints .i64 gv6)⟩, ⟨false, .flat 1104 (.ints .u8 gv7)⟩]) j0 k1 x2 gv3 gv4 gv5 gv6 gv7)
  | _, _, _ => none
theorem Q42.en_ok (N : Nat) (hE : EnvOk (E42 N) ents) (ρ : Type) (args : List AV) (sh : Heap) (K : AV → Heap → Option ρ) (r : ρ) (h : Q42.en N ρ args sh K = some r) : ∃ v sh', K v sh' = some r ∧ FnOk (E42 N).P 82 args sh v sh' := by
  unfold Q42.en at h
  split at h
  · exact fn_ok hE (kp := Q42.kp) (N := N) Try.func82 (c := Q42.bd) (by kernel_rfl) ((Q42.eq N _ _ _ _ _ _ _ _ _).trans h)
  · cases h
def E43 (N : Nat) : Env := (E42 N).add 82 (Q42.en N)
theorem E43_ok (N : Nat) : EnvOk (E43 N) ents := Env.add_ok (E42_ok N) (Q42.en_ok N (E42_ok N))
def Q43.kp : Keeps := ⟨[(0, [0, 1, 7], [], []), (2, [0, 1, 4, 7, 14, 15], [], [])], [(0, [], [], []), (2, [0, 1, 7], [], [])], []⟩
def Q43.bd : Code := bodyOf Try.f81
def Q43.fin {ρ : Type} (N : Nat) (K : AV → Heap → Option ρ) (gv0 : Nat → Int) (gv1 : Nat → Int) (gv2 : Nat → Int) (gv3 : Nat → Int) (gv4 : Nat → Int) (gv5 : Nat → Int) : XE → St → Option ρ := finK (E43 N) Q43.kp.fins Try.f81 [⟨false, .flat 64 (.ints .u8 gv0)⟩, ⟨false, .avs [.sptr [(5, 64)]]⟩, ⟨false, .avs [.sptr [(6, 2), (7, 1104)]]⟩, ⟨false, .flat 2 (.ints .i64 gv1)⟩, ⟨true, .flat 64 (.ints .u8 gv2)⟩, ⟨false, .flat 64 (.ints .u8 gv3)⟩, ⟨false, .flat 2 (.ints .i64 gv4)⟩, ⟨false, .flat 1104 (.ints .u8 gv5)⟩] K
def Q43.k0 {ρ : Type} (N : Nat) (K : AV → Heap → Option ρ) (gv0 : Nat → Int) (gv1 : Nat → Int) (gv2 : Nat → Int) (gv3 : Nat → Int) (gv4 : Nat → Int) (gv5 : Nat → Int) : XE → St → Option ρ := (blockK Q43.kp 8 0 (Q43.fin N K gv0 gv1 gv2 gv3 gv4 gv5))
theorem Q43.k0_mix {ρ : Type} (N : Nat) (K : AV → Heap → Option ρ) (gv0 : Nat → Int) (gv1 : Nat → Int) (gv2 : Nat → Int) (gv3 : Nat → Int) (gv4 : Nat → Int) (gv5 : Nat → Int) : mixK (Q43.fin N K gv0 gv1 gv2 gv3 gv4 gv5 .ret) (Q43.k0 N K gv0 gv1 gv2 gv3 gv4 gv5) = (Q43.k0 N K gv0 gv1 gv2 gv3 gv4 gv5) := by
  funext e s; cases e <;> kernel_rfl
def Q43.st0 (gv0 : Nat → Int) (gv1 : Nat → Int) (gv3 : Nat → Int) (gv4 : Nat → Int) (gv5 : Nat → Int) (x6 : Int) (gv7 : Nat → Int) : St := ⟨sl 29 [(0, .sptr [(0, 64)]), (1, .fn 82 0 [[(1, 1)], [(2, 1)], [(3, 2)], [(4, 64)]]), (7, .int .i64 (x6))], [⟨false, .flat 64 (.ints .u8 gv0)⟩, ⟨false, .avs [.sptr [(5, 64)]]⟩, ⟨false, .avs [.sptr [(6, 2), (7, 1104)]]⟩, ⟨false, .flat 2 (.ints .i64 gv1)⟩, ⟨true, .flat 64 (.ints .u8 gv7)⟩, ⟨false, .flat 64 (.ints .u8 gv3)⟩, ⟨false, .flat 2 (.ints .i64 gv4)⟩, ⟨false, .flat 1104 (.ints .u8 gv5)⟩]⟩
def Q43.sx0_0 (gv0 : Nat → Int) (gv1 : Nat → Int) (gv3 : Nat → Int) (gv4 : Nat → Int) (gv5 : Nat → Int) (ov12 : Nat → Int) : St := ⟨sl 29 [], [⟨false, .flat 64 (.ints .u8 gv0)⟩, ⟨false, .avs [.sptr [(5, 64)]]⟩, ⟨false, .avs [.sptr [(6, 2), (7, 1104)]]⟩, ⟨false, .flat 2 (.ints .i64 gv1)⟩, ⟨true, .flat 64 (.ints .u8 ov12)⟩, ⟨false, .flat 64 (.ints .u8 gv3)⟩, ⟨false, .flat 2 (.ints .i64 gv4)⟩, ⟨false, .flat 1104 (.ints .u8 gv5)⟩]⟩
def Q43.k1g {ρ : Type} (N : Nat) (L0 : St → Option ρ) (kv : XE → St → Option ρ) : XE → St → Option ρ := (blockK Q43.kp 8 2 (blockK Q43.kp 8 1 (seqK (xcode (E43 N) ents Q43.kp 8 N (cB (cB (cB (cL (cK (cB Q43.bd)))))) 0) (roundK Q43.kp 8 0 L0 kv))))
theorem Q43.k1_mix {ρ : Type} (N : Nat) (K : AV → Heap → Option ρ) (L0 : St → Option ρ) (gv0 : Nat → Int) (gv1 : Nat → Int) (gv2 : Nat → Int) (gv3 : Nat → Int) (gv4 : Nat → Int) (gv5 : Nat → Int) : mixK (Q43.fin N K gv0 gv1 gv2 gv3 gv4 gv5 .ret) (Q43.k1g N L0 (Q43.k0 N K gv0 gv1 gv2 gv3 gv4 gv5)) = (Q43.k1g N L0 (Q43.k0 N K gv0 gv1 gv2 gv3 gv4 gv5)) := by
  funext e s; cases e <;> kernel_rfl
def Q43.st1 (gv0 : Nat → Int) (gv1 : Nat → Int) (gv3 : Nat → Int) (gv4 : Nat → Int) (gv5 : Nat → Int) (x6 : Int) (x8 : Int) (gv9 : Nat → Int) : St := ⟨sl 29 [(0, .sptr [(0, 64)]), (1, .fn 82 0 [[(1, 1)], [(2, 1)], [(3, 2)], [(4, 64)]]), (4, .int .i64 (x6)), (7, .int .i64 (x6)), (14, .agg [⟨.u8, 8, (fun z => (gv0 ((x6.toNat * 8) + z)))⟩]), (15, .int .i64 (x8))], [⟨false, .flat 64 (.ints .u8 gv0)⟩, ⟨false, .avs [.sptr [(5, 64)]]⟩, ⟨false, .avs [.sptr [(6, 2), (7, 1104)]]⟩, ⟨false, .flat 2 (.ints .i64 gv1)⟩, ⟨true, .flat 64 (.ints .u8 gv9)⟩, ⟨false, .flat 64 (.ints .u8 gv3)⟩, ⟨false, .flat 2 (.ints .i64 gv4)⟩, ⟨false, .flat 1104 (.ints .u8 gv5)⟩]⟩
def Q43.sx1_0 (gv0 : Nat → Int) (gv1 : Nat → Int) (gv3 : Nat → Int) (gv4 : Nat → Int) (gv5 : Nat → Int) (x6 : Int) (ov11 : Nat → Int) : St := ⟨sl 29 [(0, .sptr [(0, 64)]), (1, .fn 82 0 [[(1, 1)], [(2, 1)], [(3, 2)], [(4, 64)]]), (7, .int .i64 (x6))], [⟨false, .flat 64 (.ints .u8 gv0)⟩, ⟨false, .avs [.sptr [(5, 64)]]⟩, ⟨false, .avs [.sptr [(6, 2), (7, 1104)]]⟩, ⟨false, .flat 2 (.ints .i64 gv1)⟩, ⟨true, .flat 64 (.ints .u8 ov11)⟩, ⟨false, .flat 64 (.ints .u8 gv3)⟩, ⟨false, .flat 2 (.ints .i64 gv4)⟩, ⟨false, .flat 1104 (.ints .u8 gv5)⟩]⟩
theorem Q43.b1_gen {ρ : Type} (N : Nat) (K : AV → Heap → Option ρ) (L1 : St → Option ρ) (kv : XE → St → Option ρ) (gv0 : Nat → Int) (gv1 : Nat → Int) (gv2 : Nat → Int) (gv3 : Nat → Int) (gv4 : Nat → Int) (gv5 : Nat → Int) (x6 : Int) (x8 : Int) (gv9 : Nat → Int) :
    xcode (E43 N) ents Q43.kp 8 N (cL (cK (cB (cB (cK (cA (cB (cB (cL (cK (cB Q43.bd))))))))))) 2 (Q43.st1 gv0 gv1 gv3 gv4 gv5 x6 x8 gv9) (roundK Q43.kp 8 2 L1 (mixK (Q43.fin N K gv0 gv1 gv2 gv3 gv4 gv5 .ret) kv)) = (Q43.b1 N (fun d0 => K (.tup []) [⟨false, .flat 64 (.ints .u8 gv0)⟩, ⟨false, .avs [.sptr [(5, 64)]]⟩, ⟨false, .avs [.sptr [(6, 2), (7, 1104)]]⟩, ⟨false, .flat 2 (.ints .i64 gv1)⟩, ⟨true, .flat 64 (.ints .u8 d0)⟩, ⟨false, .flat 64 (.ints .u8 gv3)⟩, ⟨false, .flat 2 (.ints .i64 gv4)⟩, ⟨false, .flat 1104 (.ints .u8 gv5)⟩]) (fun x8 gv9 => L1 (Q43.st1 gv0 gv1 gv3 gv4 gv5 x6 x8 gv9)) (fun ov11 => kv (.exit 2) (Q43.sx1_0 gv0 gv1 gv3 gv4 gv5 x6 ov11)) gv0 gv1 gv3 gv4 gv5 x6 x8 gv9) := by kernel_rfl
theorem Q43.b1_eq {ρ : Type} (N : Nat) (K : AV → Heap → Option ρ) (L0 : St → Option ρ) (L1 : St → Option ρ) (gv0 : Nat → Int) (gv1 : Nat → Int) (gv2 : Nat → Int) (gv3 : Nat → Int) (gv4 : Nat → Int) (gv5 : Nat → Int) (x6 : Int) (x8 : Int) (gv9 : Nat → Int) :
    xcode (E43 N) ents Q43.kp 8 N (cL (cK (cB (cB (cK (cA (cB (cB (cL (cK (cB Q43.bd))))))))))) 2 (Q43.st1 gv0 gv1 gv3 gv4 gv5 x6 x8 gv9) (roundK Q43.kp 8 2 L1 (Q43.k1g N L0 (Q43.k0 N K gv0 gv1 gv2 gv3 gv4 gv5))) = (Q43.b1 N (fun d0 => K (.tup []) [⟨false, .flat 64 (.ints .u8 gv0)⟩, ⟨false, .avs [.sptr [(5, 64)]]⟩, ⟨false, .avs [.sptr [(6, 2), (7, 1104)]]⟩, ⟨false, .flat 2 (.ints .i64 gv1)⟩, ⟨true, .flat 64 (.ints .u8 d0)⟩, ⟨false, .flat 64 (.ints .u8 gv3)⟩, ⟨false, .flat 2 (.ints .i64 gv4)⟩, ⟨false, .flat 1104 (.ints .u8 gv5)⟩]) (fun x8 gv9 => L1 (Q43.st1 gv0 gv1 gv3 gv4 gv5 x6 x8 gv9)) (fun ov11 => (Q43.k1g N L0 (Q43.k0 N K gv0 gv1 gv2 gv3 gv4 gv5)) (.exit 2) (Q43.sx1_0 gv0 gv1 gv3 gv4 gv5 x6 ov11)) gv0 gv1 gv3 gv4 gv5 x6 x8 gv9) := by
  have h := Q43.b1_gen N K L1 (Q43.k1g N L0 (Q43.k0 N K gv0 gv1 gv2 gv3 gv4 gv5)) gv0 gv1 gv2 gv3 gv4 gv5 x6 x8 gv9
  rw [Q43.k1_mix] at h
  exact h
theorem Q43.a1_0_gen {ρ : Type} (N : Nat) (K : AV → Heap → Option ρ) (L0 : St → Option ρ) (kv : XE → St → Option ρ) (gv0 : Nat → Int) (gv1 : Nat → Int) (gv2 : Nat → Int) (gv3 : Nat → Int) (gv4 : Nat → Int) (gv5 : Nat → Int) (x6 : Int) (ov11 : Nat → Int) :
    (Q43.k1g N L0 (mixK (Q43.fin N K gv0 gv1 gv2 gv3 gv4 gv5 .ret) kv)) (.exit 2) (Q43.sx1_0 gv0 gv1 gv3 gv4 gv5 x6 ov11) = (Q43.a1_0 N (fun d0 => K (.tup []) [⟨false, .flat 64 (.ints .u8 gv0)⟩, ⟨false, .avs [.sptr [(5, 64)]]⟩, ⟨false, .avs [.sptr [(6, 2), (7, 1104)]]⟩, ⟨false, .flat 2 (.ints .i64 gv1)⟩, ⟨true, .flat 64 (.ints .u8 d0)⟩, ⟨false, .flat 64 (.ints .u8 gv3)⟩, ⟨false, .flat 2 (.ints .i64 gv4)⟩, ⟨false, .flat 1104 (.ints .u8 gv5)⟩]) (fun x6 gv7 => L0 (Q43.st0 gv0 gv1 gv3 gv4 gv5 x6 gv7)) (fun ov12 => kv (.exit 0) (Q43.sx0_0 gv0 gv1 gv3 gv4 gv5 ov12)) x6 ov11) := by kernel_rfl
theorem Q43.a1_0_eq {ρ : Type} (N : Nat) (K : AV → Heap → Option ρ) (L0 : St → Option ρ) (gv0 : Nat → Int) (gv1 : Nat → Int) (gv2 : Nat → Int) (gv3 : Nat → Int) (gv4 : Nat → Int) (gv5 : Nat → Int) (x6 : Int) (ov11 : Nat → Int) :
    (Q43.k1g N L0 (Q43.k0 N K gv0 gv1 gv2 gv3 gv4 gv5)) (.exit 2) (Q43.sx1_0 gv0 gv1 gv3 gv4 gv5 x6 ov11) = (Q43.a1_0 N (fun d0 => K (.tup []) [⟨false, .flat 64 (.ints .u8 gv0)⟩, ⟨false, .avs [.sptr [(5, 64)]]⟩, ⟨false, .avs [.sptr [(6, 2), (7, 1104)]]⟩, ⟨false, .flat 2 (.ints .i64 gv1)⟩, ⟨true, .flat 64 (.ints .u8 d0)⟩, ⟨false, .flat 64 (.ints .u8 gv3)⟩, ⟨false, .flat 2 (.ints .i64 gv4)⟩, ⟨false, .flat 1104 (.ints .u8 gv5)⟩]) (fun x6 gv7 => L0 (Q43.st0 gv0 gv1 gv3 gv4 gv5 x6 gv7)) (fun ov12 => (Q43.k0 N K gv0 gv1 gv2 gv3 gv4 gv5) (.exit 0) (Q43.sx0_0 gv0 gv1 gv3 gv4 gv5 ov12)) x6 ov11) := by
  have h := Q43.a1_0_gen N K L0 (Q43.k0 N K gv0 gv1 gv2 gv3 gv4 gv5) gv0 gv1 gv2 gv3 gv4 gv5 x6 ov11
  rw [Q43.k0_mix] at h
  exact h
theorem Q43.b0_gen {ρ : Type} (N : Nat) (K : AV → Heap → Option ρ) (L0 : St → Option ρ) (kv : XE → St → Option ρ) (gv0 : Nat → Int) (gv1 : Nat → Int) (gv2 : Nat → Int) (gv3 : Nat → Int) (gv4 : Nat → Int) (gv5 : Nat → Int) (x6 : Int) (gv7 : Nat → Int) :
    xcode (E43 N) ents Q43.kp 8 N (cL (cK (cB Q43.bd))) 0 (Q43.st0 gv0 gv1 gv3 gv4 gv5 x6 gv7) (roundK Q43.kp 8 0 L0 (mixK (Q43.fin N K gv0 gv1 gv2 gv3 gv4 gv5 .ret) kv)) = (Q43.b0 N (fun d0 => K (.tup []) [⟨false, .flat 64 (.ints .u8 gv0)⟩, ⟨false, .avs [.sptr [(5, 64)]]⟩, ⟨false, .avs [.sptr [(6, 2), (7, 1104)]]⟩, ⟨false, .flat 2 (.ints .i64 gv1)⟩, ⟨true, .flat 64 (.ints .u8 d0)⟩, ⟨false, .flat 64 (.ints .u8 gv3)⟩, ⟨false, .flat 2 (.ints .i64 gv4)⟩, ⟨false, .flat 1104 (.ints .u8 gv5)⟩]) (fun x8 gv9 => xloop (xcode (E43 N) ents Q43.kp 8 N (cL (cK (cB (cB (cK (cA (cB (cB (cL (cK (cB Q43.bd))))))))))) 2) Q43.kp 8 2 N (Q43.st1 gv0 gv1 gv3 gv4 gv5 x6 x8 gv9) (Q43.k1g N L0 (mixK (Q43.fin N K gv0 gv1 gv2 gv3 gv4 gv5 .ret) kv))) (fun x6 gv7 => L0 (Q43.st0 gv0 gv1 gv3 gv4 gv5 x6 gv7)) (fun ov12 => kv (.exit 0) (Q43.sx0_0 gv0 gv1 gv3 gv4 gv5 ov12)) x6 gv7) := by kernel_rfl
theorem Q43.b0_eq {ρ : Type} (N : Nat) (K : AV → Heap → Option ρ) (L0 : St → Option ρ) (gv0 : Nat → Int) (gv1 : Nat → Int) (gv2 : Nat → Int) (gv3 : Nat → Int) (gv4 : Nat → Int) (gv5 : Nat → Int) (x6 : Int) (gv7 : Nat → Int) :
    xcode (E43 N) ents Q43.kp 8 N (cL (cK (cB Q43.bd))) 0 (Q43.st0 gv0 gv1 gv3 gv4 gv5 x6 gv7) (roundK Q43.kp 8 0 L0 (Q43.k0 N K gv0 gv1 gv2 gv3 gv4 gv5)) = (Q43.b0 N (fun d0 => K (.tup []) [⟨false, .flat 64 (.ints .u8 gv0)⟩, ⟨false, .avs [.sptr [(5, 64)]]⟩, ⟨false, .avs [.sptr [(6, 2), (7, 1104)]]⟩, ⟨false, .flat 2 (.ints .i64 gv1)⟩, ⟨true, .flat 64 (.ints .u8 d0)⟩, ⟨false, .flat 64 (.ints .u8 gv3)⟩, ⟨false, .flat 2 (.ints .i64 gv4)⟩, ⟨false, .flat 1104 (.ints .u8 gv5)⟩]) (fun x8 gv9 => xloop (xcode (E43 N) ents Q43.kp 8 N (cL (cK (cB (cB (cK (cA (cB (cB (cL (cK (cB Q43.bd))))))))))) 2) Q43.kp 8 2 N (Q43.st1 gv0 gv1 gv3 gv4 gv5 x6 x8 gv9) (Q43.k1g N L0 (Q43.k0 N K gv0 gv1 gv2 gv3 gv4 gv5))) (fun x6 gv7 => L0 (Q43.st0 gv0 gv1 gv3 gv4 gv5 x6 gv7)) (fun ov12 => (Q43.k0 N K gv0 gv1 gv2 gv3 gv4 gv5) (.exit 0) (Q43.sx0_0 gv0 gv1 gv3 gv4 gv5 ov12)) x6 gv7) := by
  have h := Q43.b0_gen N K L0 (Q43.k0 N K gv0 gv1 gv2 gv3 gv4 gv5) gv0 gv1 gv2 gv3 gv4 gv5 x6 gv7
  rw [Q43.k0_mix] at h
  exact h
theorem Q43.a0_0_eq {ρ : Type} (N : Nat) (K : AV → Heap → Option ρ) (gv0 : Nat → Int) (gv1 : Nat → Int) (gv2 : Nat → Int) (gv3 : Nat → Int) (gv4 : Nat → Int) (gv5 : Nat → Int) (ov12 : Nat → Int) :
    (Q43.k0 N K gv0 gv1 gv2 gv3 gv4 gv5) (.exit 0) (Q43.sx0_0 gv0 gv1 gv3 gv4 gv5 ov12) = (Q43.a0_0 N (fun d0 => K (.tup []) [⟨false, .flat 64 (.ints .u8 gv0)⟩, ⟨false, .avs [.sptr [(5, 64)]]⟩, ⟨false, .avs [.sptr [(6, 2), (7, 1104)]]⟩, ⟨false, .flat 2 (.ints .i64 gv1)⟩, ⟨true, .flat 64 (.ints .u8 d0)⟩, ⟨false, .flat 64 (.ints .u8 gv3)⟩, ⟨false, .flat 2 (.ints .i64 gv4)⟩, ⟨false, .flat 1104 (.ints .u8 gv5)⟩]) ov12) := by kernel_rfl
theorem Q43.l1_eq {ρ : Type} (N : Nat) (K : AV → Heap → Option ρ) (L0 : St → Option ρ) (gv0 : Nat → Int) (gv1 : Nat → Int) (gv2 : Nat → Int) (gv3 : Nat → Int) (gv4 : Nat → Int) (gv5 : Nat → Int) (x6 : Int) :
    ∀ (m : Nat) (x8 : Int) (gv9 : Nat → Int), xloop (xcode (E43 N) ents Q43.kp 8 N (cL (cK (cB (cB (cK (cA (cB (cB (cL (cK (cB Q43.bd))))))))))) 2) Q43.kp 8 2 m (Q43.st1 gv0 gv1 gv3 gv4 gv5 x6 x8 gv9) (Q43.k1g N L0 (Q43.k0 N K gv0 gv1 gv2 gv3 gv4 gv5)) = (Q43.l1 N (fun d0 => K (.tup []) [⟨false, .flat 64 (.ints .u8 gv0)⟩, ⟨false, .avs [.sptr [(5, 64)]]⟩, ⟨false, .avs [.sptr [(6, 2), (7, 1104)]]⟩, ⟨false, .flat 2 (.ints .i64 gv1)⟩, ⟨true, .flat 64 (.ints .u8 d0)⟩, ⟨false, .flat 64 (.ints .u8 gv3)⟩, ⟨false, .flat 2 (.ints .i64 gv4)⟩, ⟨false, .flat 1104 (.ints .u8 gv5)⟩]) gv0 gv1 gv3 gv4 gv5 x6 (fun ov11 => (Q43.k1g N L0 (Q43.k0 N K gv0 gv1 gv2 gv3 gv4 gv5)) (.exit 2) (Q43.sx1_0 gv0 gv1 gv3 gv4 gv5 x6 ov11)) m x8 gv9) := by
  intro m
  induction m with
  | zero => intros; rfl
  | succ m ih =>
    intro x8 gv9
    refine (Q43.b1_eq N K L0 (fun s => xloop (xcode (E43 N) ents Q43.kp 8 N (cL (cK (cB (cB (cK (cA (cB (cB (cL (cK (cB Q43.bd))))))))))) 2) Q43.kp 8 2 m s (Q43.k1g N L0 (Q43.k0 N K gv0 gv1 gv2 gv3 gv4 gv5))) gv0 gv1 gv2 gv3 gv4 gv5 x6 x8 gv9).trans ?_
    simp only [ih]
    kernel_rfl
theorem Q43.l0_eq {ρ : Type} (N : Nat) (K : AV → Heap → Option ρ) (gv0 : Nat → Int) (gv1 : Nat → Int) (gv2 : Nat → Int) (gv3 : Nat → Int) (gv4 : Nat → Int) (gv5 : Nat → Int) :
    ∀ (m : Nat) (x6 : Int) (gv7 : Nat → Int), xloop (xcode (E43 N) ents Q43.kp 8 N (cL (cK (cB Q43.bd))) 0) Q43.kp 8 0 m (Q43.st0 gv0 gv1 gv3 gv4 gv5 x6 gv7) (Q43.k0 N K gv0 gv1 gv2 gv3 gv4 gv5) = (Q43.l0 N (fun d0 => K (.tup []) [⟨false, .flat 64 (.ints .u8 gv0)⟩, ⟨false, .avs [.sptr [(5, 64)]]⟩, ⟨false, .avs [.sptr [(6, 2), (7, 1104)]]⟩, ⟨false, .flat 2 (.ints .i64 gv1)⟩, ⟨true, .flat 64 (.ints .u8 d0)⟩, ⟨false, .flat 64 (.ints .u8 gv3)⟩, ⟨false, .flat 2 (.ints .i64 gv4)⟩, ⟨false, .flat 1104 (.ints .u8 gv5)⟩]) gv0 gv1 gv3 gv4 gv5 (fun ov12 => (Q43.k0 N K gv0 gv1 gv2 gv3 gv4 gv5) (.exit 0) (Q43.sx0_0 gv0 gv1 gv3 gv4 gv5 ov12)) m x6 gv7) := by
  intro m
  induction m with
  | zero => intros; rfl
  | succ m ih =>
    intro x6 gv7
    refine (Q43.b0_eq N K (fun s => xloop (xcode (E43 N) ents Q43.kp 8 N (cL (cK (cB Q43.bd))) 0) Q43.kp 8 0 m s (Q43.k0 N K gv0 gv1 gv2 gv3 gv4 gv5)) gv0 gv1 gv2 gv3 gv4 gv5 x6 gv7).trans ?_
    simp only [ih, Q43.l1_eq, Q43.a1_0_eq]
    kernel_rfl
theorem Q43.s_eq {ρ : Type} (N : Nat) (K : AV → Heap → Option ρ) (gv0 : Nat → Int) (gv1 : Nat → Int) (gv2 : Nat → Int) (gv3 : Nat → Int) (gv4 : Nat → Int) (gv5 : Nat → Int) :
    xbody (E43 N) ents Q43.kp N Try.f81 Q43.bd [.sptr [(0, 64)], .fn 82 0 [[(1, 1)], [(2, 1)], [(3, 2)], [(4, 64)]]] [⟨false, .flat 64 (.ints .u8 gv0)⟩, ⟨false, .avs [.sptr [(5, 64)]]⟩, ⟨false, .avs [.sptr [(6, 2), (7, 1104)]]⟩, ⟨false, .flat 2 (.ints .i64 gv1)⟩, ⟨true, .flat 64 (.ints .u8 gv2)⟩, ⟨false, .flat 64 (.ints .u8 gv3)⟩, ⟨false, .flat 2 (.ints .i64 gv4)⟩, ⟨false, .flat 1104 (.ints .u8 gv5)⟩] K = (Q43.s N (fun d0 => K (.tup []) [⟨false, .flat 64 (.ints .u8 gv0)⟩, ⟨false, .avs [.sptr [(5, 64)]]⟩, ⟨false, .avs [.sptr [(6, 2), (7, 1104)]]⟩, ⟨false, .flat 2 (.ints .i64 gv1)⟩, ⟨true, .flat 64 (.ints .u8 d0)⟩, ⟨false, .flat 64 (.ints .u8 gv3)⟩, ⟨false, .flat 2 (.ints .i64 gv4)⟩, ⟨false, .flat 1104 (.ints .u8 gv5)⟩]) (fun x6 gv7 => xloop (xcode (E43 N) ents Q43.kp 8 N (cL (cK (cB Q43.bd))) 0) Q43.kp 8 0 N (Q43.st0 gv0 gv1 gv3 gv4 gv5 x6 gv7) (Q43.k0 N K gv0 gv1 gv2 gv3 gv4 gv5)) gv2) := by kernel_rfl
theorem Q43.eq {ρ : Type} (N : Nat) (K : AV → Heap → Option ρ) (gv0 : Nat → Int) (gv1 : Nat → Int) (gv2 : Nat → Int) (gv3 : Nat → Int) (gv4 : Nat → Int) (gv5 : Nat → Int) :
    xbody (E43 N) ents Q43.kp N Try.f81 Q43.bd [.sptr [(0, 64)], .fn 82 0 [[(1, 1)], [(2, 1)], [(3, 2)], [(4, 64)]]] [⟨false, .flat 64 (.ints .u8 gv0)⟩, ⟨false, .avs [.sptr [(5, 64)]]⟩, ⟨false, .avs [.sptr [(6, 2), (7, 1104)]]⟩, ⟨false, .flat 2 (.ints .i64 gv1)⟩, ⟨true, .flat 64 (.ints .u8 gv2)⟩, ⟨false, .flat 64 (.ints .u8 gv3)⟩, ⟨false, .flat 2 (.ints .i64 gv4)⟩, ⟨false, .flat 1104 (.ints .u8 gv5)⟩] K = (Q43 N (fun d0 => K (.tup []) [⟨false, .flat 64 (.ints .u8 gv0)⟩, ⟨false, .avs [.sptr [(5, 64)]]⟩, ⟨false, .avs [.sptr [(6, 2), (7, 1104)]]⟩, ⟨false, .flat 2 (.ints .i64 gv1)⟩, ⟨true, .flat 64 (.ints .u8 d0)⟩, ⟨false, .flat 64 (.ints .u8 gv3)⟩, ⟨false, .flat 2 (.ints .i64 gv4)⟩, ⟨false, .flat 1104 (.ints .u8 gv5)⟩]) gv0 gv1 gv2 gv3 gv4 gv5) := by
  refine (Q43.s_eq N K gv0 gv1 gv2 gv3 gv4 gv5).trans ?_
  simp only [Q43.l0_eq, Q43.a0_0_eq]
  kernel_rfl
def Q43.en (N : Nat) (ρ : Type) : List AV → Heap → (AV → Heap → Option ρ) → Option ρ
  | [.sptr [(0, 64)], .fn 82 0 [[(1, 1)], [(2, 1)], [(3, 2)], [(4, 64)]]], [⟨false, .flat 64 (.ints .u8 gv0)⟩, ⟨false, .avs [.sptr [(5, 64)]]⟩, ⟨false, .avs [.sptr [(6, 2), (7, 1104)]]⟩, ⟨false, .flat 2 (.ints .i64 gv1)⟩, ⟨true, .flat 64 (.ints .u8 gv2)⟩, ⟨false, .flat 64 (.ints .u8 gv3)⟩, ⟨false, .flat 2 (.ints .i64 gv4)⟩, ⟨false, .flat 1104 (.ints .u8 gv5)⟩], K => (Q43 N (fun d0 => K (.tup []) [⟨false, .flat 64 (.ints .u8 gv0)⟩, ⟨false, .avs [.sptr [(5, 64)]]⟩, ⟨false, .avs [.sptr [(6, 2), (7, 1104)]]⟩, ⟨false, .flat 2 (.ints .i64 gv1)⟩, ⟨true, .flat 64 (.ints .u8 d0)⟩, ⟨false, .flat 64 (.ints .u8 gv3)⟩, ⟨false, .flat 2 (.ints .i64 gv4)⟩, ⟨false, .flat 1104 (.ints .u8 gv5)⟩]) gv0 gv1 gv2 gv3 gv4 gv5)
  | args, sh, K => (E43 N).fn 81 ρ args sh K
theorem Q43.en_ok (N : Nat) (hE : EnvOk (E43 N) ents) (ρ : Type) (args : List AV) (sh : Heap) (K : AV → Heap → Option ρ) (r : ρ) (h : Q43.en N ρ args sh K = some r) : ∃ v sh', K v sh' = some r ∧ FnOk (E43 N).P 81 args sh v sh' := by
  unfold Q43.en at h
  split at h
  · exact fn_ok hE (kp := Q43.kp) (N := N) Try.func81 (c := Q43.bd) (by kernel_rfl) ((Q43.eq N _ _ _ _ _ _ _).trans h)
  · exact hE.spec _ _ _ _ _ _ h
def E44 (N : Nat) : Env := (E43 N).add 81 (Q43.en N)
theorem E44_ok (N : Nat) : EnvOk (E44 N) ents := Env.add_ok (E43_ok N) (Q43.en_ok N (E43_ok N))
def Q44.kp : Keeps := ⟨[], [], []⟩
def Q44.bd : Code := bodyOf Try.f62
def Q44.fin {ρ : Type} (N : Nat) (K : AV → Heap → Option ρ) (gv0 : Nat → Int) (gv1 : Nat → Int) (gv2 : Nat → Int) (gv3 : Nat → Int) : XE → St → Option ρ := finK (E44 N) Q44.kp.fins Try.f62 [⟨false, .flat 2 (.ints .i64 gv0)⟩, ⟨false, .flat 1104 (.ints .u8 gv1)⟩, ⟨false, .flat 64 (.ints .u8 gv2)⟩, ⟨false, .flat 64 (.ints .u8 gv3)⟩] K
theorem Q44.eq {ρ : Type} (N : Nat) (K : AV → Heap → Option ρ) (gv0 : Nat → Int) (gv1 : Nat → Int) (gv2 : Nat → Int) (gv3 : Nat → Int) :
    xbody (E44 N) ents Q44.kp N Try.f62 Q44.bd [.sptr [(0, 2), (1, 1104)], .sptr [(2, 64)], .sptr [(3, 64)]] [⟨false, .flat 2 (.ints .i64 gv0)⟩, ⟨false, .flat 1104 (.ints .u8 gv1)⟩, ⟨false, .flat 64 (.ints .u8 gv2)⟩, ⟨false, .flat 64 (.ints .u8 gv3)⟩] K = (Q44 N (fun d0 => K (.agg [⟨.u8, 64, d0⟩]) [⟨false, .flat 2 (.ints .i64 gv0)⟩, ⟨false, .flat 1104 (.ints .u8 gv1)⟩, ⟨false, .flat 64 (.ints .u8 gv2)⟩, ⟨false, .flat 64 (.ints .u8 gv3)⟩]) gv0 gv1 gv2 gv3) := by kernel_rfl
def Q44.en (N : Nat) (ρ : Type) : List AV → Heap → (AV → Heap → Option ρ) → Option ρ
  | [.sptr [(0, 2), (1, 1104)], .sptr [(2, 64)], .sptr [(3, 64)]], [⟨false, .flat 2 (.ints .i64 gv0)⟩, ⟨false, .flat 1104 (.ints .u8 gv1)⟩, ⟨false, .flat 64 (.ints .u8 gv2)⟩, ⟨false, .flat 64 (.ints .u8 gv3)⟩], K => (Q44 N (fun d0 => K (.agg [⟨.u8, 64, d0⟩]) [⟨false, .flat 2 (.ints .i64 gv0)⟩, ⟨false, .flat 1104 (.ints .u8 gv1)⟩, ⟨false, .flat 64 (.ints .u8 gv2)⟩, ⟨false, .flat 64 (.ints .u8 gv3)⟩]) gv0 gv1 gv2 gv3)
  | _, _, _ => none
theorem Q44.en_ok (N : Nat) (hE : EnvOk (E44 N) ents) (ρ : Type) (args : List AV) (sh : Heap) (K : AV → Heap → Option ρ) (r : ρ) (h : Q44.en N ρ args sh K = some r) : ∃ v sh', K v sh' = some r ∧ FnOk (E44 N).P 62 args sh v sh' := by
  unfold Q44.en at h
  split at h
  · exact fn_ok hE (kp := Q44.kp) (N := N) Try.func62 (c := Q44.bd) (by kernel_rfl) ((Q44.eq N _ _ _ _ _).trans h)
  · cases h
def E45 (N : Nat) : Env := (E44 N).add 62 (Q44.en N)
theorem E45_ok (N : Nat) : EnvOk (E45 N) ents := Env.add_ok (E44_ok N) (Q44.en_ok N (E44_ok N))
def Q45.kp : Keeps := ⟨[(0, [0, 4, 5, 6, 7, 8, 15, 16], [], []), (2, [0, 4, 5, 6, 7, 8, 9, 15, 16, 24, 25], [], [])], [(0, [6, 8], [], []), (2, [0, 4, 5, 6, 7, 8, 15, 16], [], [])], []⟩
def Q45.bd : Code := bodyOf Try.f63
def Q45.fin {ρ : Type} (N : Nat) (K : AV → Heap → Option ρ) (gv2 : Nat → Int) (gv3 : Nat → Int) : XE → St → Option ρ := finK (E45 N) Q45.kp.fins Try.f63 [⟨false, .flat 2 (.ints .i64 gv2)⟩, ⟨false, .flat 1104 (.ints .u8 gv3)⟩] K
def Q45.k0 {ρ : Type} (N : Nat) (K : AV → Heap → Option ρ) (gv2 : Nat → Int) (gv3 : Nat → Int) : XE → St → Option ρ := (blockK Q45.kp 2 0 (seqK (xcode (E45 N) ents Q45.kp 2 N (cB (cB (cB Q45.bd))) 0) (Q45.fin N K gv2 gv3)))
theorem Q45.k0_mix {ρ : Type} (N : Nat) (K : AV → Heap → Option ρ) (gv2 : Nat → Int) (gv3 : Nat → Int) : mixK (Q45.fin N K gv2 gv3 .ret) (Q45.k0 N K gv2 gv3) = (Q45.k0 N K gv2 gv3) := by
  funext e s; cases e <;> kernel_rfl
def Q45.st0 (v0 : Nat → Int) (w1 : Nat → Int) (gv2 : Nat → Int) (gv3 : Nat → Int) (rv4 : Nat → Int) (x5 : Int) (gv6 : Nat → Int) : St := ⟨sl 50 [(0, .sptr [(0, 2), (1, 1104)]), (4, .sptr [(2, 8)]), (5, .sptr [(3, 8)]), (6, .sptr [(4, 8)]), (7, .sptr [(5, 2)]), (8, .sptr [(6, 8)]), (15, .int .i64 ((rv4 1))), (16, .int .i64 (x5))], [⟨false, .flat 2 (.ints .i64 gv2)⟩, ⟨false, .flat 1104 (.ints .u8 gv3)⟩, ⟨true, .flat 8 (.ints .u8 v0)⟩, ⟨true, .flat 8 (.ints .u8 w1)⟩, ⟨true, .flat 8 (.ints .u8 (fun _ => 0))⟩, ⟨true, .flat 2 (.ints .i64 rv4)⟩, ⟨true, .flat 8 (.ints .u8 gv6)⟩]⟩
def Q45.sx0_0 (gv2 : Nat → Int) (gv3 : Nat → Int) (ov11 : Nat → Int) : St := ⟨sl 50 [(6, .sptr [(2, 8)]), (8, .sptr [(3, 8)])], [⟨false, .flat 2 (.ints .i64 gv2)⟩, ⟨false, .flat 1104 (.ints .u8 gv3)⟩, ⟨true, .flat 8 (.ints .u8 (fun _ => 0))⟩, ⟨true, .flat 8 (.ints .u8 ov11)⟩]⟩
def Q45.k1g {ρ : Type} (N : Nat) (L0 : St → Option ρ) (kv : XE → St → Option ρ) : XE → St → Option ρ := (blockK Q45.kp 2 2 (blockK Q45.kp 2 1 (seqK (xcode (E45 N) ents Q45.kp 2 N (cB (cB (cB (cL (cK (cB (cA (cB (cB Q45.bd))))))))) 0) (roundK Q45.kp 2 0 L0 kv))))
theorem Q45.k1_mix {ρ : Type} (N : Nat) (K : AV → Heap → Option ρ) (L0 : St → Option ρ) (gv2 : Nat → Int) (gv3 : Nat → Int) : mixK (Q45.fin N K gv2 gv3 .ret) (Q45.k1g N L0 (Q45.k0 N K gv2 gv3)) = (Q45.k1g N L0 (Q45.k0 N K gv2 gv3)) := by
  funext e s; cases e <;> kernel_rfl
def Q45.st1 (v0 : Nat → Int) (w1 : Nat → Int) (gv2 : Nat → Int) (gv3 : Nat → Int) (rv4 : Nat → Int) (x5 : Int) (x7 : Int) (gv8 : Nat → Int) : St := ⟨sl 50 [(0, .sptr [(0, 2), (1, 1104)]), (4, .sptr [(2, 8)]), (5, .sptr [(3, 8)]), (6, .sptr [(4, 8)]), (7, .sptr [(5, 2)]), (8, .sptr [(6, 8)]), (9, .int .i64 (x5)), (15, .int .i64 ((rv4 1))), (16, .int .i64 (x5)), (24, .int .i64 ((rv4 1))), (25, .int .i64 (x7))], [⟨false, .flat 2 (.ints .i64 gv2)⟩, ⟨false, .flat 1104 (.ints .u8 gv3)⟩, ⟨true, .flat 8 (.ints .u8 v0)⟩, ⟨true, .flat 8 (.ints .u8 w1)⟩, ⟨true, .flat 8 (.ints .u8 (fun _ => 0))⟩, ⟨true, .flat 2 (.ints .i64 rv4)⟩, ⟨true, .flat 8 (.ints .u8 gv8)⟩]⟩
def Q45.sx1_0 (v0 : Nat → Int) (w1 : Nat → Int) (gv2 : Nat → Int) (gv3 : Nat → Int) (rv4 : Nat → Int) (x5 : Int) (ov10 : Nat → Int) : St := ⟨sl 50 [(0, .sptr [(0, 2), (1, 1104)]), (4, .sptr [(2, 8)]), (5, .sptr [(3, 8)]), (6, .sptr [(4, 8)]), (7, .sptr [(5, 2)]), (8, .sptr [(6, 8)]), (15, .int .i64 ((rv4 1))), (16, .int .i64 (x5))], [⟨false, .flat 2 (.ints .i64 gv2)⟩, ⟨false, .flat 1104 (.ints .u8 gv3)⟩, ⟨true, .flat 8 (.ints .u8 v0)⟩, ⟨true, .flat 8 (.ints .u8 w1)⟩, ⟨true, .flat 8 (.ints .u8 (fun _ => 0))⟩, ⟨true, .flat 2 (.ints .i64 rv4)⟩, ⟨true, .flat 8 (.ints .u8 ov10)⟩]⟩
theorem Q45.b1_gen {ρ : Type} (N : Nat) (K : AV → Heap → Option ρ) (L1 : St → Option ρ) (kv : XE → St → Option ρ) (v0 : Nat → Int) (w1 : Nat → Int) (gv2 : Nat → Int) (gv3 : Nat → Int) (rv4 : Nat → Int) (x5 : Int) (x7 : Int) (gv8 : Nat → Int) :
    xcode (E45 N) ents Q45.kp 2 N (cL (cK (cB (cB (cB (cK (cA (cB (cB (cL (cK (cB (cA (cB (cB Q45.bd))))))))))))))) 2 (Q45.st1 v0 w1 gv2 gv3 rv4 x5 x7 gv8) (roundK Q45.kp 2 2 L1 (mixK (Q45.fin N K gv2 gv3 .ret) kv)) = (Q45.b1 N (fun d0 => K (.agg [⟨.u8, 8, d0⟩]) [⟨false, .flat 2 (.ints .i64 gv2)⟩, ⟨false, .flat 1104 (.ints .u8 gv3)⟩]) (fun x7 gv8 => L1 (Q45.st1 v0 w1 gv2 gv3 rv4 x5 x7 gv8)) (fun ov10 => kv (.exit 2) (Q45.sx1_0 v0 w1 gv2 gv3 rv4 x5 ov10)) v0 w1 gv3 rv4 x5 x7 gv8) := by kernel_rfl
theorem Q45.b1_eq {ρ : Type} (N : Nat) (K : AV → Heap → Option ρ) (L0 : St → Option ρ) (L1 : St → Option ρ) (v0 : Nat → Int) (w1 : Nat → Int) (gv2 : Nat → Int) (gv3 : Nat → Int) (rv4 : Nat → Int) (x5 : Int) (x7 : Int) (gv8 : Nat → Int) :
    xcode (E45 N) ents Q45.kp 2 N (cL (cK (cB (cB (cB (cK (cA (cB (cB (cL (cK (cB (cA (cB (cB Q45.bd))))))))))))))) 2 (Q45.st1 v0 w1 gv2 gv3 rv4 x5 x7 gv8) (roundK Q45.kp 2 2 L1 (Q45.k1g N L0 (Q45.k0 N K gv2 gv3))) = (Q45.b1 N (fun d0 => K (.agg [⟨.u8, 8, d0⟩]) [⟨false, .flat 2 (.ints .i64 gv2)⟩, ⟨false, .flat 1104 (.ints .u8 gv3)⟩]) (fun x7 gv8 => L1 (Q45.st1 v0 w1 gv2 gv3 rv4 x5 x7 gv8)) (fun ov10 => (Q45.k1g N L0 (Q45.k0 N K gv2 gv3)) (.exit 2) (Q45.sx1_0 v0 w1 gv2 gv3 rv4 x5 ov10)) v0 w1 gv3 rv4 x5 x7 gv8) := by
  have h := Q45.b1_gen N K L1 (Q45.k1g N L0 (Q45.k0 N K gv2 gv3)) v0 w1 gv2 gv3 rv4 x5 x7 gv8
  rw [Q45.k1_mix] at h
  exact h
theorem Q45.a1_0_gen {ρ : Type} (N : Nat) (K : AV → Heap → Option ρ) (L0 : St → Option ρ) (kv : XE → St → Option ρ) (v0 : Nat → Int) (w1 : Nat → Int) (gv2 : Nat → Int) (gv3 : Nat → Int) (rv4 : Nat → Int) (x5 : Int) (ov10 : Nat → Int) :
    (Q45.k1g N L0 (mixK (Q45.fin N K gv2 gv3 .ret) kv)) (.exit 2) (Q45.sx1_0 v0 w1 gv2 gv3 rv4 x5 ov10) = (Q45.a1_0 N (fun d0 => K (.agg [⟨.u8, 8, d0⟩]) [⟨false, .flat 2 (.ints .i64 gv2)⟩, ⟨false, .flat 1104 (.ints .u8 gv3)⟩]) (fun x5 gv6 => L0 (Q45.st0 v0 w1 gv2 gv3 rv4 x5 gv6)) (fun ov11 => kv (.exit 0) (Q45.sx0_0 gv2 gv3 ov11)) x5 ov10) := by kernel_rfl
theorem Q45.a1_0_eq {ρ : Type} (N : Nat) (K : AV → Heap → Option ρ) (L0 : St → Option ρ) (v0 : Nat → Int) (w1 : Nat → Int) (gv2 : Nat → Int) (gv3 : Nat → Int) (rv4 : Nat → Int) (x5 : Int) (ov10 : Nat → Int) :
    (Q45.k1g N L0 (Q45.k0 N K gv2 gv3)) (.exit 2) (Q45.sx1_0 v0 w1 gv2 gv3 rv4 x5 ov10) = (Q45.a1_0 N (fun d0 => K (.agg [⟨.u8, 8, d0⟩]) [⟨false, .flat 2 (.ints .i64 gv2)⟩, ⟨false, .flat 1104 (.ints .u8 gv3)⟩]) (fun x5 gv6 => L0 (Q45.st0 v0 w1 gv2 gv3 rv4 x5 gv6)) (fun ov11 => (Q45.k0 N K gv2 gv3) (.exit 0) (Q45.sx0_0 gv2 gv3 ov11)) x5 ov10) := by
  have h := Q45.a1_0_gen N K L0 (Q45.k0 N K gv2 gv3) v0 w1 gv2 gv3 rv4 x5 ov10
  rw [Q45.k0_mix] at h
  exact h
theorem Q45.b0_gen {ρ : Type} (N : Nat) (K : AV → Heap → Option ρ) (L0 : St → Option ρ) (kv : XE → St → Option ρ) (v0 : Nat → Int) (w1 : Nat → Int) (gv2 : Nat → Int) (gv3 : Nat → Int) (rv4 : Nat → Int) (x5 : Int) (gv6 : Nat → Int) :
    xcode (E45 N) ents Q45.kp 2 N (cL (cK (cB (cA (cB (cB Q45.bd)))))) 0 (Q45.st0 v0 w1 gv2 gv3 rv4 x5 gv6) (roundK Q45.kp 2 0 L0 (mixK (Q45.fin N K gv2 gv3 .ret) kv)) = (Q45.b0 N (fun d0 => K (.agg [⟨.u8, 8, d0⟩]) [⟨false, .flat 2 (.ints .i64 gv2)⟩, ⟨false, .flat 1104 (.ints .u8 gv3)⟩]) (fun x7 gv8 => xloop (xcode (E45 N) ents Q45.kp 2 N (cL (cK (cB (cB (cB (cK (cA (cB (cB (cL (cK (cB (cA (cB (cB Q45.bd))))))))))))))) 2) Q45.kp 2 2 N (Q45.st1 v0 w1 gv2 gv3 rv4 x5 x7 gv8) (Q45.k1g N L0 (mixK (Q45.fin N K gv2 gv3 .ret) kv))) (fun x5 gv6 => L0 (Q45.st0 v0 w1 gv2 gv3 rv4 x5 gv6)) (fun ov11 => kv (.exit 0) (Q45.sx0_0 gv2 gv3 ov11)) v0 rv4 x5 gv6) := by kernel_rfl
theorem Q45.b0_eq {ρ : Type} (N : Nat) (K : AV → Heap → Option ρ) (L0 : St → Option ρ) (v0 : Nat → Int) (w1 : Nat → Int) (gv2 : Nat → Int) (gv3 : Nat → Int) (rv4 : Nat → Int) (x5 : Int) (gv6 : Nat → Int) :
    xcode (E45 N) ents Q45.kp 2 N (cL (cK (cB (cA (cB (cB Q45.bd)))))) 0 (Q45.st0 v0 w1 gv2 gv3 rv4 x5 gv6) (roundK Q45.kp 2 0 L0 (Q45.k0 N K gv2 gv3)) = (Q45.b0 N (fun d0 => K (.agg [⟨.u8, 8, d0⟩]) [⟨false, .flat 2 (.ints .i64 gv2)⟩, ⟨false, .flat 1104 (.ints .u8 gv3)⟩]) (fun x7 gv8 => xloop (xcode (E45 N) ents Q45.kp 2 N (cL (cK (cB (cB (cB (cK (cA (cB (cB (cL (cK (cB (cA (cB (cB Q45.bd))))))))))))))) 2) Q45.kp 2 2 N (Q45.st1 v0 w1 gv2 gv3 rv4 x5 x7 gv8) (Q45.k1g N L0 (Q45.k0 N K gv2 gv3))) (fun x5 gv6 => L0 (Q45.st0 v0 w1 gv2 gv3 rv4 x5 gv6)) (fun ov11 => (Q45.k0 N K gv2 gv3) (.exit 0) (Q45.sx0_0 gv2 gv3 ov11)) v0 rv4 x5 gv6) := by
  have h := Q45.b0_gen N K L0 (Q45.k0 N K gv2 gv3) v0 w1 gv2 gv3 rv4 x5 gv6
  rw [Q45.k0_mix] at h
  exact h
theorem Q45.a0_0_eq {ρ : Type} (N : Nat) (K : AV → Heap → Option ρ) (gv2 : Nat → Int) (gv3 : Nat → Int) (ov11 : Nat → Int) :
    (Q45.k0 N K gv2 gv3) (.exit 0) (Q45.sx0_0 gv2 gv3 ov11) = (Q45.a0_0 N (fun d0 => K (.agg [⟨.u8, 8, d0⟩]) [⟨false, .flat 2 (.ints .i64 gv2)⟩, ⟨false, .flat 1104 (.ints .u8 gv3)⟩]) ov11) := by kernel_rfl
theorem Q45.l1_eq {ρ : Type} (N : Nat) (K : AV → Heap → Option ρ) (L0 : St → Option ρ) (v0 : Nat → Int) (w1 : Nat → Int) (gv2 : Nat → Int) (gv3 : Nat → Int) (rv4 : Nat → Int) (x5 : Int) :
    ∀ (m : Nat) (x7 : Int) (gv8 : Nat → Int), xloop (xcode (E45 N) ents Q45.kp 2 N (cL (cK (cB (cB (cB (cK (cA (cB (cB (cL (cK (cB (cA (cB (cB Q45.bd))))))))))))))) 2) Q45.kp 2 2 m (Q45.st1 v0 w1 gv2 gv3 rv4 x5 x7 gv8) (Q45.k1g N L0 (Q45.k0 N K gv2 gv3)) = (Q45.l1 N (fun d0 => K (.agg [⟨.u8, 8, d0⟩]) [⟨false, .flat 2 (.ints .i64 gv2)⟩, ⟨false, .flat 1104 (.ints .u8 gv3)⟩]) v0 w1 gv3 rv4 x5 (fun ov10 => (Q45.k1g N L0 (Q45.k0 N K gv2 gv3)) (.exit 2) (Q45.sx1_0 v0 w1 gv2 gv3 rv4 x5 ov10)) m x7 gv8) := by
  intro m
  induction m with
  | zero => intros; rfl
  | succ m ih =>
    intro x7 gv8
    refine (Q45.b1_eq N K L0 (fun s => xloop (xcode (E45 N) ents Q45.kp 2 N (cL (cK (cB (cB (cB (cK (cA (cB (cB (cL (cK (cB (cA (cB (cB Q45.bd))))))))))))))) 2) Q45.kp 2 2 m s (Q45.k1g N L0 (Q45.k0 N K gv2 gv3))) v0 w1 gv2 gv3 rv4 x5 x7 gv8).trans ?_
    simp only [ih]
    kernel_rfl
theorem Q45.l0_eq {ρ : Type} (N : Nat) (K : AV → Heap → Option ρ) (v0 : Nat → Int) (w1 : Nat → Int) (gv2 : Nat → Int) (gv3 : Nat → Int) (rv4 : Nat → Int) :
    ∀ (m : Nat) (x5 : Int) (gv6 : Nat → Int), xloop (xcode (E45 N) ents Q45.kp 2 N (cL (cK (cB (cA (cB (cB Q45.bd)))))) 0) Q45.kp 2 0 m (Q45.st0 v0 w1 gv2 gv3 rv4 x5 gv6) (Q45.k0 N K gv2 gv3) = (Q45.l0 N (fun d0 => K (.agg [⟨.u8, 8, d0⟩]) [⟨false, .flat 2 (.ints .i64 gv2)⟩, ⟨false, .flat 1104 (.ints .u8 gv3)⟩]) v0 w1 gv3 rv4 (fun ov11 => (Q45.k0 N K gv2 gv3) (.exit 0) (Q45.sx0_0 gv2 gv3 ov11)) m x5 gv6) := by
  intro m
  induction m with
  | zero => intros; rfl
  | succ m ih =>
    intro x5 gv6
    refine (Q45.b0_eq N K (fun s => xloop (xcode (E45 N) ents Q45.kp 2 N (cL (cK (cB (cA (cB (cB Q45.bd)))))) 0) Q45.kp 2 0 m s (Q45.k0 N K gv2 gv3)) v0 w1 gv2 gv3 rv4 x5 gv6).trans ?_
    simp only [ih, Q45.l1_eq, Q45.a1_0_eq]
    kernel_rfl
theorem Q45.s_eq {ρ : Type} (N : Nat) (K : AV → Heap → Option ρ) (v0 : Nat → Int) (w1 : Nat → Int) (gv2 : Nat → Int) (gv3 : Nat → Int) :
    xbody (E45 N) ents Q45.kp N Try.f63 Q45.bd [.sptr [(0, 2), (1, 1104)], .agg [⟨.u8, 8, v0⟩], .agg [⟨.u8, 8, w1⟩]] [⟨false, .flat 2 (.ints .i64 gv2)⟩, ⟨false, .flat 1104 (.ints .u8 gv3)⟩] K = (Q45.s N (fun d0 => K (.agg [⟨.u8, 8, d0⟩]) [⟨false, .flat 2 (.ints .i64 gv2)⟩, ⟨false, .flat 1104 (.ints .u8 gv3)⟩]) (fun rv4 x5 gv6 => xloop (xcode (E45 N) ents Q45.kp 2 N (cL (cK (cB (cA (cB (cB Q45.bd)))))) 0) Q45.kp 2 0 N (Q45.st0 v0 w1 gv2 gv3 rv4 x5 gv6) (Q45.k0 N K gv2 gv3)) gv2 gv3) := by kernel_rfl
theorem Q45.eq {ρ : Type} (N : Nat) (K : AV → Heap → Option ρ) (v0 : Nat → Int) (w1 : Nat → Int) (gv2 : Nat → Int) (gv3 : Nat → Int) :
    xbody (E45 N) ents Q45.kp N Try.f63 Q45.bd [.sptr [(0, 2), (1, 1104)], .agg [⟨.u8, 8, v0⟩], .agg [⟨.u8, 8, w1⟩]] [⟨false, .flat 2 (.ints .i64 gv2)⟩, ⟨false, .flat 1104 (.ints .u8 gv3)⟩] K = (Q45 N (fun d0 => K (.agg [⟨.u8, 8, d0⟩]) [⟨false, .flat 2 (.ints .i64 gv2)⟩, ⟨false, .flat 1104 (.ints .u8 gv3)⟩]) v0 w1 gv2 gv3) := by
  refine (Q45.s_eq N K v0 w1 gv2 gv3).trans ?_
  simp only [Q45.l0_eq, Q45.a0_0_eq]
  kernel_rfl
def Q45.en (N : Nat) (ρ : Type) : List AV → Heap → (AV → Heap → Option ρ) → Option ρ
  | [.sptr [(0, 2), (1, 1104)], .agg [⟨.u8, 8, v0⟩], .agg [⟨.u8, 8, w1⟩]], [⟨false, .flat 2 (.ints .i64 gv2)⟩, ⟨false, .flat 1104 (.ints .u8 gv3)⟩], K => (Q45 N (fun d0 => K (.agg [⟨.u8, 8, d0⟩]) [⟨false, .flat 2 (.ints .i64 gv2)⟩, ⟨false, .flat 1104 (.ints .u8 gv3)⟩]) v0 w1 gv2 gv3)
  | _, _, _ => none
theorem Q45.en_ok (N : Nat) (hE : EnvOk (E45 N) ents) (ρ : Type) (args : List AV) (sh : Heap) (K : AV → Heap → Option ρ) (r : ρ) (h : Q45.en N ρ args sh K = some r) : ∃ v sh', K v sh' = some r ∧ FnOk (E45 N).P 63 args sh v sh' := by
  unfold Q45.en at h
  split at h
  · exact fn_ok hE (kp := Q45.kp) (N := N) Try.func63 (c := Q45.bd) (by kernel_rfl) ((Q45.eq N _ _ _ _ _).trans h)
  · cases h
def E46 (N : Nat) : Env := (E45 N).add 63 (Q45.en N)
theorem E46_ok (N : Nat) : EnvOk (E46 N) ents := Env.add_ok (E45_ok N) (Q45.en_ok N (E45_ok N))
end
end Go.Proofs.Ytlehklooibbmcaa.H
