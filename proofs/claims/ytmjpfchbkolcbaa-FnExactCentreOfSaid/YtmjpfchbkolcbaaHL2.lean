import Derived.Test.YtmjpfchbkolcbaaHL1
namespace Go.Proofs.Ytmjpfchbkolcbaa.H
noncomputable section
set_option linter.unusedVariables false
set_option linter.unusedSimpArgs false
open Go Go.RowKit Go.Proofs.Ytmjpfchbkolcbaa.Hy
set_option maxRecDepth 100000
def impl_Algebra_product.kp : Keeps := ⟨[(0, [0, 4, 5, 6, 7, 8, 15, 16], [], []), (2, [0, 4, 5, 6, 7, 8, 9, 15, 16, 24, 25], [], [])], [(0, [6, 8], [], []), (2, [0, 4, 5, 6, 7, 8, 15, 16], [], [])], []⟩
def impl_Algebra_product.bd : Code := bodyOf Try.f52
def impl_Algebra_product.fin {ρ : Type} (N : Nat) (K : AV → Heap → Option ρ) (gv2 : Nat → Int) (gv3 : Nat → Int) : XE → St → Option ρ := finK (E39 N) impl_Algebra_product.kp.fins Try.f52 [⟨false, .flat 2 (.ints .i64 gv2)⟩, ⟨false, .flat 520 (.ints .u8 gv3)⟩] K
def impl_Algebra_product.k0 {ρ : Type} (N : Nat) (K : AV → Heap → Option ρ) (gv2 : Nat → Int) (gv3 : Nat → Int) : XE → St → Option ρ := (blockK impl_Algebra_product.kp 2 0 (seqK (xcode (E39 N) ents impl_Algebra_product.kp 2 N (cB (cB (cB impl_Algebra_product.bd))) 0) (impl_Algebra_product.fin N K gv2 gv3)))
theorem impl_Algebra_product.k0_mix {ρ : Type} (N : Nat) (K : AV → Heap → Option ρ) (gv2 : Nat → Int) (gv3 : Nat → Int) : mixK (impl_Algebra_product.fin N K gv2 gv3 .ret) (impl_Algebra_product.k0 N K gv2 gv3) = (impl_Algebra_product.k0 N K gv2 gv3) := by
  funext e s; cases e <;> kernel_rfl
def impl_Algebra_product.st0 (v0 : Nat → Int) (w1 : Nat → Int) (gv2 : Nat → Int) (gv3 : Nat → Int) (rv4 : Nat → Int) (x5 : Int) (gv6 : Nat → Int) : St := ⟨sl 50 [(0, .sptr [(0, 2), (1, 520)]), (4, .sptr [(2, 8)]), (5, .sptr [(3, 8)]), (6, .sptr [(4, 8)]), (7, .sptr [(5, 2)]), (8, .sptr [(6, 8)]), (15, .int .i64 ((rv4 1))), (16, .int .i64 (x5))], [⟨false, .flat 2 (.ints .i64 gv2)⟩, ⟨false, .flat 520 (.ints .u8 gv3)⟩, ⟨true, .flat 8 (.ints .u8 v0)⟩, ⟨true, .flat 8 (.ints .u8 w1)⟩, ⟨true, .flat 8 (.ints .u8 (fun _ => 0))⟩, ⟨true, .flat 2 (.ints .i64 rv4)⟩, ⟨true, .flat 8 (.ints .u8 gv6)⟩]⟩
def impl_Algebra_product.sx0_0 (gv2 : Nat → Int) (gv3 : Nat → Int) (ov11 : Nat → Int) : St := ⟨sl 50 [(6, .sptr [(2, 8)]), (8, .sptr [(3, 8)])], [⟨false, .flat 2 (.ints .i64 gv2)⟩, ⟨false, .flat 520 (.ints .u8 gv3)⟩, ⟨true, .flat 8 (.ints .u8 (fun _ => 0))⟩, ⟨true, .flat 8 (.ints .u8 ov11)⟩]⟩
def impl_Algebra_product.k1g {ρ : Type} (N : Nat) (L0 : St → Option ρ) (kv : XE → St → Option ρ) : XE → St → Option ρ := (blockK impl_Algebra_product.kp 2 2 (blockK impl_Algebra_product.kp 2 1 (seqK (xcode (E39 N) ents impl_Algebra_product.kp 2 N (cB (cB (cB (cL (cK (cB (cA (cB (cB impl_Algebra_product.bd))))))))) 0) (roundK impl_Algebra_product.kp 2 0 L0 kv))))
theorem impl_Algebra_product.k1_mix {ρ : Type} (N : Nat) (K : AV → Heap → Option ρ) (L0 : St → Option ρ) (gv2 : Nat → Int) (gv3 : Nat → Int) : mixK (impl_Algebra_product.fin N K gv2 gv3 .ret) (impl_Algebra_product.k1g N L0 (impl_Algebra_product.k0 N K gv2 gv3)) = (impl_Algebra_product.k1g N L0 (impl_Algebra_product.k0 N K gv2 gv3)) := by
  funext e s; cases e <;> kernel_rfl
def impl_Algebra_product.st1 (v0 : Nat → Int) (w1 : Nat → Int) (gv2 : Nat → Int) (gv3 : Nat → Int) (rv4 : Nat → Int) (x5 : Int) (x7 : Int) (gv8 : Nat → Int) : St := ⟨sl 50 [(0, .sptr [(0, 2), (1, 520)]), (4, .sptr [(2, 8)]), (5, .sptr [(3, 8)]), (6, .sptr [(4, 8)]), (7, .sptr [(5, 2)]), (8, .sptr [(6, 8)]), (9, .int .i64 (x5)), (15, .int .i64 ((rv4 1))), (16, .int .i64 (x5)), (24, .int .i64 ((rv4 1))), (25, .int .i64 (x7))], [⟨false, .flat 2 (.ints .i64 gv2)⟩, ⟨false, .flat 520 (.ints .u8 gv3)⟩, ⟨true, .flat 8 (.ints .u8 v0)⟩, ⟨true, .flat 8 (.ints .u8 w1)⟩, ⟨true, .flat 8 (.ints .u8 (fun _ => 0))⟩, ⟨true, .flat 2 (.ints .i64 rv4)⟩, ⟨true, .flat 8 (.ints .u8 gv8)⟩]⟩
def impl_Algebra_product.sx1_0 (v0 : Nat → Int) (w1 : Nat → Int) (gv2 : Nat → Int) (gv3 : Nat → Int) (rv4 : Nat → Int) (x5 : Int) (ov10 : Nat → Int) : St := ⟨sl 50 [(0, .sptr [(0, 2), (1, 520)]), (4, .sptr [(2, 8)]), (5, .sptr [(3, 8)]), (6, .sptr [(4, 8)]), (7, .sptr [(5, 2)]), (8, .sptr [(6, 8)]), (15, .int .i64 ((rv4 1))), (16, .int .i64 (x5))], [⟨false, .flat 2 (.ints .i64 gv2)⟩, ⟨false, .flat 520 (.ints .u8 gv3)⟩, ⟨true, .flat 8 (.ints .u8 v0)⟩, ⟨true, .flat 8 (.ints .u8 w1)⟩, ⟨true, .flat 8 (.ints .u8 (fun _ => 0))⟩, ⟨true, .flat 2 (.ints .i64 rv4)⟩, ⟨true, .flat 8 (.ints .u8 ov10)⟩]⟩
theorem impl_Algebra_product.b1_gen {ρ : Type} (N : Nat) (K : AV → Heap → Option ρ) (L1 : St → Option ρ) (kv : XE → St → Option ρ) (v0 : Nat → Int) (w1 : Nat → Int) (gv2 : Nat → Int) (gv3 : Nat → Int) (rv4 : Nat → Int) (x5 : Int) (x7 : Int) (gv8 : Nat → Int) :
    xcode (E39 N) ents impl_Algebra_product.kp 2 N (cL (cK (cB (cB (cB (cK (cA (cB (cB (cL (cK (cB (cA (cB (cB impl_Algebra_product.bd))))))))))))))) 2 (impl_Algebra_product.st1 v0 w1 gv2 gv3 rv4 x5 x7 gv8) (roundK impl_Algebra_product.kp 2 2 L1 (mixK (impl_Algebra_product.fin N K gv2 gv3 .ret) kv)) = (impl_Algebra_product.b1 N (fun d0 => K (.agg [⟨.u8, 8, d0⟩]) [⟨false, .flat 2 (.ints .i64 gv2)⟩, ⟨false, .flat 520 (.ints .u8 gv3)⟩]) (fun x7 gv8 => L1 (impl_Algebra_product.st1 v0 w1 gv2 gv3 rv4 x5 x7 gv8)) (fun ov10 => kv (.exit 2) (impl_Algebra_product.sx1_0 v0 w1 gv2 gv3 rv4 x5 ov10)) v0 w1 gv3 rv4 x5 x7 gv8) := by kernel_rfl
theorem impl_Algebra_product.b1_eq {ρ : Type} (N : Nat) (K : AV → Heap → Option ρ) (L0 : St → Option ρ) (L1 : St → Option ρ) (v0 : Nat → Int) (w1 : Nat → Int) (gv2 : Nat → Int) (gv3 : Nat → Int) (rv4 : Nat → Int) (x5 : Int) (x7 : Int) (gv8 : Nat → Int) :
    xcode (E39 N) ents impl_Algebra_product.kp 2 N (cL (cK (cB (cB (cB (cK (cA (cB (cB (cL (cK (cB (cA (cB (cB impl_Algebra_product.bd))))))))))))))) 2 (impl_Algebra_product.st1 v0 w1 gv2 gv3 rv4 x5 x7 gv8) (roundK impl_Algebra_product.kp 2 2 L1 (impl_Algebra_product.k1g N L0 (impl_Algebra_product.k0 N K gv2 gv3))) = (impl_Algebra_product.b1 N (fun d0 => K (.agg [⟨.u8, 8, d0⟩]) [⟨false, .flat 2 (.ints .i64 gv2)⟩, ⟨false, .flat 520 (.ints .u8 gv3)⟩]) (fun x7 gv8 => L1 (impl_Algebra_product.st1 v0 w1 gv2 gv3 rv4 x5 x7 gv8)) (fun ov10 => (impl_Algebra_product.k1g N L0 (impl_Algebra_product.k0 N K gv2 gv3)) (.exit 2) (impl_Algebra_product.sx1_0 v0 w1 gv2 gv3 rv4 x5 ov10)) v0 w1 gv3 rv4 x5 x7 gv8) := by
  have h := impl_Algebra_product.b1_gen N K L1 (impl_Algebra_product.k1g N L0 (impl_Algebra_product.k0 N K gv2 gv3)) v0 w1 gv2 gv3 rv4 x5 x7 gv8
  rw [impl_Algebra_product.k1_mix] at h
  exact h
theorem impl_Algebra_product.a1_0_gen {ρ : Type} (N : Nat) (K : AV → Heap → Option ρ) (L0 : St → Option ρ) (kv : XE → St → Option ρ) (v0 : Nat → Int) (w1 : Nat → Int) (gv2 : Nat → Int) (gv3 : Nat → Int) (rv4 : Nat → Int) (x5 : Int) (ov10 : Nat → Int) :
    (impl_Algebra_product.k1g N L0 (mixK (impl_Algebra_product.fin N K gv2 gv3 .ret) kv)) (.exit 2) (impl_Algebra_product.sx1_0 v0 w1 gv2 gv3 rv4 x5 ov10) = (impl_Algebra_product.a1_0 N (fun d0 => K (.agg [⟨.u8, 8, d0⟩]) [⟨false, .flat 2 (.ints .i64 gv2)⟩, ⟨false, .flat 520 (.ints .u8 gv3)⟩]) (fun x5 gv6 => L0 (impl_Algebra_product.st0 v0 w1 gv2 gv3 rv4 x5 gv6)) (fun ov11 => kv (.exit 0) (impl_Algebra_product.sx0_0 gv2 gv3 ov11)) x5 ov10) := by kernel_rfl
theorem impl_Algebra_product.a1_0_eq {ρ : Type} (N : Nat) (K : AV → Heap → Option ρ) (L0 : St → Option ρ) (v0 : Nat → Int) (w1 : Nat → Int) (gv2 : Nat → Int) (gv3 : Nat → Int) (rv4 : Nat → Int) (x5 : Int) (ov10 : Nat → Int) :
    (impl_Algebra_product.k1g N L0 (impl_Algebra_product.k0 N K gv2 gv3)) (.exit 2) (impl_Algebra_product.sx1_0 v0 w1 gv2 gv3 rv4 x5 ov10) = (impl_Algebra_product.a1_0 N (fun d0 => K (.agg [⟨.u8, 8, d0⟩]) [⟨false, .flat 2 (.ints .i64 gv2)⟩, ⟨false, .flat 520 (.ints .u8 gv3)⟩]) (fun x5 gv6 => L0 (impl_Algebra_product.st0 v0 w1 gv2 gv3 rv4 x5 gv6)) (fun ov11 => (impl_Algebra_product.k0 N K gv2 gv3) (.exit 0) (impl_Algebra_product.sx0_0 gv2 gv3 ov11)) x5 ov10) := by
  have h := impl_Algebra_product.a1_0_gen N K L0 (impl_Algebra_product.k0 N K gv2 gv3) v0 w1 gv2 gv3 rv4 x5 ov10
  rw [impl_Algebra_product.k0_mix] at h
  exact h
theorem impl_Algebra_product.b0_gen {ρ : Type} (N : Nat) (K : AV → Heap → Option ρ) (L0 : St → Option ρ) (kv : XE → St → Option ρ) (v0 : Nat → Int) (w1 : Nat → Int) (gv2 : Nat → Int) (gv3 : Nat → Int) (rv4 : Nat → Int) (x5 : Int) (gv6 : Nat → Int) :
    xcode (E39 N) ents impl_Algebra_product.kp 2 N (cL (cK (cB (cA (cB (cB impl_Algebra_product.bd)))))) 0 (impl_Algebra_product.st0 v0 w1 gv2 gv3 rv4 x5 gv6) (roundK impl_Algebra_product.kp 2 0 L0 (mixK (impl_Algebra_product.fin N K gv2 gv3 .ret) kv)) = (impl_Algebra_product.b0 N (fun d0 => K (.agg [⟨.u8, 8, d0⟩]) [⟨false, .flat 2 (.ints .i64 gv2)⟩, ⟨false, .flat 520 (.ints .u8 gv3)⟩]) (fun x7 gv8 => xloop (xcode (E39 N) ents impl_Algebra_product.kp 2 N (cL (cK (cB (cB (cB (cK (cA (cB (cB (cL (cK (cB (cA (cB (cB impl_Algebra_product.bd))))))))))))))) 2) impl_Algebra_product.kp 2 2 N (impl_Algebra_product.st1 v0 w1 gv2 gv3 rv4 x5 x7 gv8) (impl_Algebra_product.k1g N L0 (mixK (impl_Algebra_product.fin N K gv2 gv3 .ret) kv))) (fun x5 gv6 => L0 (impl_Algebra_product.st0 v0 w1 gv2 gv3 rv4 x5 gv6)) (fun ov11 => kv (.exit 0) (impl_Algebra_product.sx0_0 gv2 gv3 ov11)) v0 rv4 x5 gv6) := by kernel_rfl
theorem impl_Algebra_product.b0_eq {ρ : Type} (N : Nat) (K : AV → Heap → Option ρ) (L0 : St → Option ρ) (v0 : Nat → Int) (w1 : Nat → Int) (gv2 : Nat → Int) (gv3 : Nat → Int) (rv4 : Nat → Int) (x5 : Int) (gv6 : Nat → Int) :
    xcode (E39 N) ents impl_Algebra_product.kp 2 N (cL (cK (cB (cA (cB (cB impl_Algebra_product.bd)))))) 0 (impl_Algebra_product.st0 v0 w1 gv2 gv3 rv4 x5 gv6) (roundK impl_Algebra_product.kp 2 0 L0 (impl_Algebra_product.k0 N K gv2 gv3)) = (impl_Algebra_product.b0 N (fun d0 => K (.agg [⟨.u8, 8, d0⟩]) [⟨false, .flat 2 (.ints .i64 gv2)⟩, ⟨false, .flat 520 (.ints .u8 gv3)⟩]) (fun x7 gv8 => xloop (xcode (E39 N) ents impl_Algebra_product.kp 2 N (cL (cK (cB (cB (cB (cK (cA (cB (cB (cL (cK (cB (cA (cB (cB impl_Algebra_product.bd))))))))))))))) 2) impl_Algebra_product.kp 2 2 N (impl_Algebra_product.st1 v0 w1 gv2 gv3 rv4 x5 x7 gv8) (impl_Algebra_product.k1g N L0 (impl_Algebra_product.k0 N K gv2 gv3))) (fun x5 gv6 => L0 (impl_Algebra_product.st0 v0 w1 gv2 gv3 rv4 x5 gv6)) (fun ov11 => (impl_Algebra_product.k0 N K gv2 gv3) (.exit 0) (impl_Algebra_product.sx0_0 gv2 gv3 ov11)) v0 rv4 x5 gv6) := by
  have h := impl_Algebra_product.b0_gen N K L0 (impl_Algebra_product.k0 N K gv2 gv3) v0 w1 gv2 gv3 rv4 x5 gv6
  rw [impl_Algebra_product.k0_mix] at h
  exact h
theorem impl_Algebra_product.a0_0_eq {ρ : Type} (N : Nat) (K : AV → Heap → Option ρ) (gv2 : Nat → Int) (gv3 : Nat → Int) (ov11 : Nat → Int) :
    (impl_Algebra_product.k0 N K gv2 gv3) (.exit 0) (impl_Algebra_product.sx0_0 gv2 gv3 ov11) = (impl_Algebra_product.a0_0 N (fun d0 => K (.agg [⟨.u8, 8, d0⟩]) [⟨false, .flat 2 (.ints .i64 gv2)⟩, ⟨false, .flat 520 (.ints .u8 gv3)⟩]) ov11) := by kernel_rfl
theorem impl_Algebra_product.l1_eq {ρ : Type} (N : Nat) (K : AV → Heap → Option ρ) (L0 : St → Option ρ) (v0 : Nat → Int) (w1 : Nat → Int) (gv2 : Nat → Int) (gv3 : Nat → Int) (rv4 : Nat → Int) (x5 : Int) :
    ∀ (m : Nat) (x7 : Int) (gv8 : Nat → Int), xloop (xcode (E39 N) ents impl_Algebra_product.kp 2 N (cL (cK (cB (cB (cB (cK (cA (cB (cB (cL (cK (cB (cA (cB (cB impl_Algebra_product.bd))))))))))))))) 2) impl_Algebra_product.kp 2 2 m (impl_Algebra_product.st1 v0 w1 gv2 gv3 rv4 x5 x7 gv8) (impl_Algebra_product.k1g N L0 (impl_Algebra_product.k0 N K gv2 gv3)) = (impl_Algebra_product.l1 N (fun d0 => K (.agg [⟨.u8, 8, d0⟩]) [⟨false, .flat 2 (.ints .i64 gv2)⟩, ⟨false, .flat 520 (.ints .u8 gv3)⟩]) v0 w1 gv3 rv4 x5 (fun ov10 => (impl_Algebra_product.k1g N L0 (impl_Algebra_product.k0 N K gv2 gv3)) (.exit 2) (impl_Algebra_product.sx1_0 v0 w1 gv2 gv3 rv4 x5 ov10)) m x7 gv8) := by
  intro m
  induction m with
  | zero => intros; rfl
  | succ m ih =>
    intro x7 gv8
    refine (impl_Algebra_product.b1_eq N K L0 (fun s => xloop (xcode (E39 N) ents impl_Algebra_product.kp 2 N (cL (cK (cB (cB (cB (cK (cA (cB (cB (cL (cK (cB (cA (cB (cB impl_Algebra_product.bd))))))))))))))) 2) impl_Algebra_product.kp 2 2 m s (impl_Algebra_product.k1g N L0 (impl_Algebra_product.k0 N K gv2 gv3))) v0 w1 gv2 gv3 rv4 x5 x7 gv8).trans ?_
    simp only [ih]
    kernel_rfl
theorem impl_Algebra_product.l0_eq {ρ : Type} (N : Nat) (K : AV → Heap → Option ρ) (v0 : Nat → Int) (w1 : Nat → Int) (gv2 : Nat → Int) (gv3 : Nat → Int) (rv4 : Nat → Int) :
    ∀ (m : Nat) (x5 : Int) (gv6 : Nat → Int), xloop (xcode (E39 N) ents impl_Algebra_product.kp 2 N (cL (cK (cB (cA (cB (cB impl_Algebra_product.bd)))))) 0) impl_Algebra_product.kp 2 0 m (impl_Algebra_product.st0 v0 w1 gv2 gv3 rv4 x5 gv6) (impl_Algebra_product.k0 N K gv2 gv3) = (impl_Algebra_product.l0 N (fun d0 => K (.agg [⟨.u8, 8, d0⟩]) [⟨false, .flat 2 (.ints .i64 gv2)⟩, ⟨false, .flat 520 (.ints .u8 gv3)⟩]) v0 w1 gv3 rv4 (fun ov11 => (impl_Algebra_product.k0 N K gv2 gv3) (.exit 0) (impl_Algebra_product.sx0_0 gv2 gv3 ov11)) m x5 gv6) := by
  intro m
  induction m with
  | zero => intros; rfl
  | succ m ih =>
    intro x5 gv6
    refine (impl_Algebra_product.b0_eq N K (fun s => xloop (xcode (E39 N) ents impl_Algebra_product.kp 2 N (cL (cK (cB (cA (cB (cB impl_Algebra_product.bd)))))) 0) impl_Algebra_product.kp 2 0 m s (impl_Algebra_product.k0 N K gv2 gv3)) v0 w1 gv2 gv3 rv4 x5 gv6).trans ?_
    simp only [ih, impl_Algebra_product.l1_eq, impl_Algebra_product.a1_0_eq]
    kernel_rfl
theorem impl_Algebra_product.s_eq {ρ : Type} (N : Nat) (K : AV → Heap → Option ρ) (v0 : Nat → Int) (w1 : Nat → Int) (gv2 : Nat → Int) (gv3 : Nat → Int) :
    xbody (E39 N) ents impl_Algebra_product.kp N Try.f52 impl_Algebra_product.bd [.sptr [(0, 2), (1, 520)], .agg [⟨.u8, 8, v0⟩], .agg [⟨.u8, 8, w1⟩]] [⟨false, .flat 2 (.ints .i64 gv2)⟩, ⟨false, .flat 520 (.ints .u8 gv3)⟩] K = (impl_Algebra_product.s N (fun d0 => K (.agg [⟨.u8, 8, d0⟩]) [⟨false, .flat 2 (.ints .i64 gv2)⟩, ⟨false, .flat 520 (.ints .u8 gv3)⟩]) (fun rv4 x5 gv6 => xloop (xcode (E39 N) ents impl_Algebra_product.kp 2 N (cL (cK (cB (cA (cB (cB impl_Algebra_product.bd)))))) 0) impl_Algebra_product.kp 2 0 N (impl_Algebra_product.st0 v0 w1 gv2 gv3 rv4 x5 gv6) (impl_Algebra_product.k0 N K gv2 gv3)) gv2 gv3) := by kernel_rfl
theorem impl_Algebra_product.eq {ρ : Type} (N : Nat) (K : AV → Heap → Option ρ) (v0 : Nat → Int) (w1 : Nat → Int) (gv2 : Nat → Int) (gv3 : Nat → Int) :
    xbody (E39 N) ents impl_Algebra_product.kp N Try.f52 impl_Algebra_product.bd [.sptr [(0, 2), (1, 520)], .agg [⟨.u8, 8, v0⟩], .agg [⟨.u8, 8, w1⟩]] [⟨false, .flat 2 (.ints .i64 gv2)⟩, ⟨false, .flat 520 (.ints .u8 gv3)⟩] K = (impl_Algebra_product N (fun d0 => K (.agg [⟨.u8, 8, d0⟩]) [⟨false, .flat 2 (.ints .i64 gv2)⟩, ⟨false, .flat 520 (.ints .u8 gv3)⟩]) v0 w1 gv2 gv3) := by
  refine (impl_Algebra_product.s_eq N K v0 w1 gv2 gv3).trans ?_
  simp only [impl_Algebra_product.l0_eq, impl_Algebra_product.a0_0_eq]
  kernel_rfl
def impl_Algebra_product.en (N : Nat) (ρ : Type) : List AV → Heap → (AV → Heap → Option ρ) → Option ρ
  | [.sptr [(0, 2), (1, 520)], .agg [⟨.u8, 8, v0⟩], .agg [⟨.u8, 8, w1⟩]], [⟨false, .flat 2 (.ints .i64 gv2)⟩, ⟨false, .flat 520 (.ints .u8 gv3)⟩], K => (impl_Algebra_product N (fun d0 => K (.agg [⟨.u8, 8, d0⟩]) [⟨false, .flat 2 (.ints .i64 gv2)⟩, ⟨false, .flat 520 (.ints .u8 gv3)⟩]) v0 w1 gv2 gv3)
  | _, _, _ => none
theorem impl_Algebra_product.en_ok (N : Nat) (hE : EnvOk (E39 N) ents) (ρ : Type) (args : List AV) (sh : Heap) (K : AV → Heap → Option ρ) (r : ρ) (h : impl_Algebra_product.en N ρ args sh K = some r) : ∃ v sh', K v sh' = some r ∧ FnOk (E39 N).P 52 args sh v sh' := by
  unfold impl_Algebra_product.en at h
  split at h
  · exact fn_ok hE (kp := impl_Algebra_product.kp) (N := N) Try.func52 (c := impl_Algebra_product.bd) (by kernel_rfl) ((impl_Algebra_product.eq N _ _ _ _ _).trans h)
  · cases h
def E40 (N : Nat) : Env := (E39 N).add 52 (impl_Algebra_product.en N)
theorem E40_ok (N : Nat) : EnvOk (E40 N) ents := Env.add_ok (E39_ok N) (impl_Algebra_product.en_ok N (E39_ok N))
def impl_Algebra_fault.kp : Keeps := ⟨[(0, [0, 3, 11, 12], [], []), (2, [0, 3, 4, 11, 12, 15, 16], [], []), (4, [0, 3, 4, 5, 11, 12, 15, 16, 19, 20], [], [])], [(0, [], [], []), (2, [0, 3, 11, 12], [], []), (4, [0, 3, 4, 11, 12, 15, 16], [], [])], []⟩
def impl_Algebra_fault.bd : Code := bodyOf Try.f53
def impl_Algebra_fault.fin {ρ : Type} (N : Nat) (K : AV → Heap → Option ρ) (gv0 : Nat → Int) (gv1 : Nat → Int) : XE → St → Option ρ := finK (E40 N) impl_Algebra_fault.kp.fins Try.f53 [⟨false, .flat 2 (.ints .i64 gv0)⟩, ⟨false, .flat 520 (.ints .u8 gv1)⟩] K
def impl_Algebra_fault.k0 {ρ : Type} (N : Nat) (K : AV → Heap → Option ρ) (gv0 : Nat → Int) (gv1 : Nat → Int) : XE → St → Option ρ := (blockK impl_Algebra_fault.kp 2 0 (seqK (xcode (E40 N) ents impl_Algebra_fault.kp 2 N (cB (cB (cB impl_Algebra_fault.bd))) 0) (impl_Algebra_fault.fin N K gv0 gv1)))
theorem impl_Algebra_fault.k0_mix {ρ : Type} (N : Nat) (K : AV → Heap → Option ρ) (gv0 : Nat → Int) (gv1 : Nat → Int) : mixK (impl_Algebra_fault.fin N K gv0 gv1 .ret) (impl_Algebra_fault.k0 N K gv0 gv1) = (impl_Algebra_fault.k0 N K gv0 gv1) := by
  funext e s; cases e <;> kernel_rfl
def impl_Algebra_fault.st0 (gv0 : Nat → Int) (gv1 : Nat → Int) (x2 : Int) : St := ⟨sl 55 [(0, .sptr [(0, 2), (1, 520)]), (3, .int .i64 ((gv0 1))), (11, .int .i64 ((gv0 1))), (12, .int .i64 (x2))], [⟨false, .flat 2 (.ints .i64 gv0)⟩, ⟨false, .flat 520 (.ints .u8 gv1)⟩]⟩
def impl_Algebra_fault.sx0_0 (gv0 : Nat → Int) (gv1 : Nat → Int) : St := ⟨sl 55 [], [⟨false, .flat 2 (.ints .i64 gv0)⟩, ⟨false, .flat 520 (.ints .u8 gv1)⟩]⟩
def impl_Algebra_fault.k1g {ρ : Type} (N : Nat) (L0 : St → Option ρ) (kv : XE → St → Option ρ) : XE → St → Option ρ := (blockK impl_Algebra_fault.kp 2 2 (blockK impl_Algebra_fault.kp 2 1 (seqK (xcode (E40 N) ents impl_Algebra_fault.kp 2 N (cB (cB (cB (cL (cK (cB (cA (cB (cB impl_Algebra_fault.bd))))))))) 0) (roundK impl_Algebra_fault.kp 2 0 L0 kv))))
theorem impl_Algebra_fault.k1_mix {ρ : Type} (N : Nat) (K : AV → Heap → Option ρ) (L0 : St → Option ρ) (gv0 : Nat → Int) (gv1 : Nat → Int) : mixK (impl_Algebra_fault.fin N K gv0 gv1 .ret) (impl_Algebra_fault.k1g N L0 (impl_Algebra_fault.k0 N K gv0 gv1)) = (impl_Algebra_fault.k1g N L0 (impl_Algebra_fault.k0 N K gv0 gv1)) := by
  funext e s; cases e <;> kernel_rfl
def impl_Algebra_fault.st1 (gv0 : Nat → Int) (gv1 : Nat → Int) (x2 : Int) (x3 : Int) : St := ⟨sl 55 [(0, .sptr [(0, 2), (1, 520)]), (3, .int .i64 ((gv0 1))), (4, .int .i64 (x2)), (11, .int .i64 ((gv0 1))), (12, .int .i64 (x2)), (15, .int .i64 ((gv0 1))), (16, .int .i64 (x3))], [⟨false, .flat 2 (.ints .i64 gv0)⟩, ⟨false, .flat 520 (.ints .u8 gv1)⟩]⟩
def impl_Algebra_fault.sx1_0 (gv0 : Nat → Int) (gv1 : Nat → Int) (x2 : Int) : St := ⟨sl 55 [(0, .sptr [(0, 2), (1, 520)]), (3, .int .i64 ((gv0 1))), (11, .int .i64 ((gv0 1))), (12, .int .i64 (x2))], [⟨false, .flat 2 (.ints .i64 gv0)⟩, ⟨false, .flat 520 (.ints .u8 gv1)⟩]⟩
def impl_Algebra_fault.k2g {ρ : Type} (N : Nat) (L1 : St → Option ρ) (kv : XE → St → Option ρ) : XE → St → Option ρ := (blockK impl_Algebra_fault.kp 2 4 (blockK impl_Algebra_fault.kp 2 3 (seqK (xcode (E40 N) ents impl_Algebra_fault.kp 2 N (cB (cB (cB (cL (cK (cB (cB (cK (cA (cB (cB (cL (cK (cB (cA (cB (cB impl_Algebra_fault.bd))))))))))))))))) 2) (roundK impl_Algebra_fault.kp 2 2 L1 kv))))
theorem impl_Algebra_fault.k2_mix {ρ : Type} (N : Nat) (K : AV → Heap → Option ρ) (L0 : St → Option ρ) (L1 : St → Option ρ) (gv0 : Nat → Int) (gv1 : Nat → Int) : mixK (impl_Algebra_fault.fin N K gv0 gv1 .ret) (impl_Algebra_fault.k2g N L1 (impl_Algebra_fault.k1g N L0 (impl_Algebra_fault.k0 N K gv0 gv1))) = (impl_Algebra_fault.k2g N L1 (impl_Algebra_fault.k1g N L0 (impl_Algebra_fault.k0 N K gv0 gv1))) := by
  funext e s; cases e <;> kernel_rfl
def impl_Algebra_fault.st2 (gv0 : Nat → Int) (gv1 : Nat → Int) (x2 : Int) (x3 : Int) (x4 : Int) : St := ⟨sl 55 [(0, .sptr [(0, 2), (1, 520)]), (3, .int .i64 ((gv0 1))), (4, .int .i64 (x2)), (5, .int .i64 (x3)), (11, .int .i64 ((gv0 1))), (12, .int .i64 (x2)), (15, .int .i64 ((gv0 1))), (16, .int .i64 (x3)), (19, .int .i64 ((gv0 1))), (20, .int .i64 (x4))], [⟨false, .flat 2 (.ints .i64 gv0)⟩, ⟨false, .flat 520 (.ints .u8 gv1)⟩]⟩
def impl_Algebra_fault.sx2_0 (gv0 : Nat → Int) (gv1 : Nat → Int) (x2 : Int) (x3 : Int) : St := ⟨sl 55 [(0, .sptr [(0, 2), (1, 520)]), (3, .int .i64 ((gv0 1))), (4, .int .i64 (x2)), (11, .int .i64 ((gv0 1))), (12, .int .i64 (x2)), (15, .int .i64 ((gv0 1))), (16, .int .i64 (x3))], [⟨false, .flat 2 (.ints .i64 gv0)⟩, ⟨false, .flat 520 (.ints .u8 gv1)⟩]⟩
theorem impl_Algebra_fault.b2_gen {ρ : Type} (N : Nat) (K : AV → Heap → Option ρ) (L2 : St → Option ρ) (kv : XE → St → Option ρ) (gv0 : Nat → Int) (gv1 : Nat → Int) (x2 : Int) (x3 : Int) (x4 : Int) :
    xcode (E40 N) ents impl_Algebra_fault.kp 2 N (cL (cK (cB (cB (cK (cA (cB (cB (cL (cK (cB (cB (cK (cA (cB (cB (cL (cK (cB (cA (cB (cB impl_Algebra_fault.bd)))))))))))))))))))))) 4 (impl_Algebra_fault.st2 gv0 gv1 x2 x3 x4) (roundK impl_Algebra_fault.kp 2 4 L2 (mixK (impl_Algebra_fault.fin N K gv0 gv1 .ret) kv)) = (impl_Algebra_fault.b2 N (fun d0 d1 d2 => K (.slice true 2 0 d0 (.exact d1) 1) [⟨false, .flat 2 (.ints .i64 gv0)⟩, ⟨false, .flat 520 (.ints .u8 gv1)⟩, ⟨true, .flat 3 (.ints .i64 d2)⟩]) (K (.nils) [⟨false, .flat 2 (.ints .i64 gv0)⟩, ⟨false, .flat 520 (.ints .u8 gv1)⟩]) (fun x4 => L2 (impl_Algebra_fault.st2 gv0 gv1 x2 x3 x4)) (kv (.exit 4) (impl_Algebra_fault.sx2_0 gv0 gv1 x2 x3)) gv0 gv1 x2 x3 x4) := by kernel_rfl
theorem impl_Algebra_fault.b2_eq {ρ : Type} (N : Nat) (K : AV → Heap → Option ρ) (L0 : St → Option ρ) (L1 : St → Option ρ) (L2 : St → Option ρ) (gv0 : Nat → Int) (gv1 : Nat → Int) (x2 : Int) (x3 : Int) (x4 : Int) :
    xcode (E40 N) ents impl_Algebra_fault.kp 2 N (cL (cK (cB (cB (cK (cA (cB (cB (cL (cK (cB (cB (cK (cA (cB (cB (cL (cK (cB (cA (cB (cB impl_Algebra_fault.bd)))))))))))))))))))))) 4 (impl_Algebra_fault.st2 gv0 gv1 x2 x3 x4) (roundK impl_Algebra_fault.kp 2 4 L2 (impl_Algebra_fault.k2g N L1 (impl_Algebra_fault.k1g N L0 (impl_Algebra_fault.k0 N K gv0 gv1)))) = (impl_Algebra_fault.b2 N (fun d0 d1 d2 => K (.slice true 2 0 d0 (.exact d1) 1) [⟨false, .flat 2 (.ints .i64 gv0)⟩, ⟨false, .flat 520 (.ints .u8 gv1)⟩, ⟨true, .flat 3 (.ints .i64 d2)⟩]) (K (.nils) [⟨false, .flat 2 (.ints .i64 gv0)⟩, ⟨false, .flat 520 (.ints .u8 gv1)⟩]) (fun x4 => L2 (impl_Algebra_fault.st2 gv0 gv1 x2 x3 x4)) ((impl_Algebra_fault.k2g N L1 (impl_Algebra_fault.k1g N L0 (impl_Algebra_fault.k0 N K gv0 gv1))) (.exit 4) (impl_Algebra_fault.sx2_0 gv0 gv1 x2 x3)) gv0 gv1 x2 x3 x4) := by
  have h := impl_Algebra_fault.b2_gen N K L2 (impl_Algebra_fault.k2g N L1 (impl_Algebra_fault.k1g N L0 (impl_Algebra_fault.k0 N K gv0 gv1))) gv0 gv1 x2 x3 x4
  rw [impl_Algebra_fault.k2_mix] at h
  exact h
theorem impl_Algebra_fault.a2_0_gen {ρ : Type} (N : Nat) (K : AV → Heap → Option ρ) (L1 : St → Option ρ) (kv : XE → St → Option ρ) (gv0 : Nat → Int) (gv1 : Nat → Int) (x2 : Int) (x3 : Int) :
    (impl_Algebra_fault.k2g N L1 (mixK (impl_Algebra_fault.fin N K gv0 gv1 .ret) kv)) (.exit 4) (impl_Algebra_fault.sx2_0 gv0 gv1 x2 x3) = (impl_Algebra_fault.a2_0 N (fun d0 d1 d2 => K (.slice true 2 0 d0 (.exact d1) 1) [⟨false, .flat 2 (.ints .i64 gv0)⟩, ⟨false, .flat 520 (.ints .u8 gv1)⟩, ⟨true, .flat 3 (.ints .i64 d2)⟩]) (K (.nils) [⟨false, .flat 2 (.ints .i64 gv0)⟩, ⟨false, .flat 520 (.ints .u8 gv1)⟩]) (fun x3 => L1 (impl_Algebra_fault.st1 gv0 gv1 x2 x3)) (kv (.exit 2) (impl_Algebra_fault.sx1_0 gv0 gv1 x2)) x3) := by kernel_rfl
theorem impl_Algebra_fault.a2_0_eq {ρ : Type} (N : Nat) (K : AV → Heap → Option ρ) (L0 : St → Option ρ) (L1 : St → Option ρ) (gv0 : Nat → Int) (gv1 : Nat → Int) (x2 : Int) (x3 : Int) :
    (impl_Algebra_fault.k2g N L1 (impl_Algebra_fault.k1g N L0 (impl_Algebra_fault.k0 N K gv0 gv1))) (.exit 4) (impl_Algebra_fault.sx2_0 gv0 gv1 x2 x3) = (impl_Algebra_fault.a2_0 N (fun d0 d1 d2 => K (.slice true 2 0 d0 (.exact d1) 1) [⟨false, .flat 2 (.ints .i64 gv0)⟩, ⟨false, .flat 520 (.ints .u8 gv1)⟩, ⟨true, .flat 3 (.ints .i64 d2)⟩]) (K (.nils) [⟨false, .flat 2 (.ints .i64 gv0)⟩, ⟨false, .flat 520 (.ints .u8 gv1)⟩]) (fun x3 => L1 (impl_Algebra_fault.st1 gv0 gv1 x2 x3)) ((impl_Algebra_fault.k1g N L0 (impl_Algebra_fault.k0 N K gv0 gv1)) (.exit 2) (impl_Algebra_fault.sx1_0 gv0 gv1 x2)) x3) := by
  have h := impl_Algebra_fault.a2_0_gen N K L1 (impl_Algebra_fault.k1g N L0 (impl_Algebra_fault.k0 N K gv0 gv1)) gv0 gv1 x2 x3
  rw [impl_Algebra_fault.k1_mix] at h
  exact h
theorem impl_Algebra_fault.b1_gen {ρ : Type} (N : Nat) (K : AV → Heap → Option ρ) (L1 : St → Option ρ) (kv : XE → St → Option ρ) (gv0 : Nat → Int) (gv1 : Nat → Int) (x2 : Int) (x3 : Int) :
    xcode (E40 N) ents impl_Algebra_fault.kp 2 N (cL (cK (cB (cB (cK (cA (cB (cB (cL (cK (cB (cA (cB (cB impl_Algebra_fault.bd)))))))))))))) 2 (impl_Algebra_fault.st1 gv0 gv1 x2 x3) (roundK impl_Algebra_fault.kp 2 2 L1 (mixK (impl_Algebra_fault.fin N K gv0 gv1 .ret) kv)) = (impl_Algebra_fault.b1 N (fun d0 d1 d2 => K (.slice true 2 0 d0 (.exact d1) 1) [⟨false, .flat 2 (.ints .i64 gv0)⟩, ⟨false, .flat 520 (.ints .u8 gv1)⟩, ⟨true, .flat 3 (.ints .i64 d2)⟩]) (K (.nils) [⟨false, .flat 2 (.ints .i64 gv0)⟩, ⟨false, .flat 520 (.ints .u8 gv1)⟩]) (fun x4 => xloop (xcode (E40 N) ents impl_Algebra_fault.kp 2 N (cL (cK (cB (cB (cK (cA (cB (cB (cL (cK (cB (cB (cK (cA (cB (cB (cL (cK (cB (cA (cB (cB impl_Algebra_fault.bd)))))))))))))))))))))) 4) impl_Algebra_fault.kp 2 4 N (impl_Algebra_fault.st2 gv0 gv1 x2 x3 x4) (impl_Algebra_fault.k2g N L1 (mixK (impl_Algebra_fault.fin N K gv0 gv1 .ret) kv))) (fun x3 => L1 (impl_Algebra_fault.st1 gv0 gv1 x2 x3)) (kv (.exit 2) (impl_Algebra_fault.sx1_0 gv0 gv1 x2)) gv0 x3) := by kernel_rfl
theorem impl_Algebra_fault.b1_eq {ρ : Type} (N : Nat) (K : AV → Heap → Option ρ) (L0 : St → Option ρ) (L1 : St → Option ρ) (gv0 : Nat → Int) (gv1 : Nat → Int) (x2 : Int) (x3 : Int) :
    xcode (E40 N) ents impl_Algebra_fault.kp 2 N (cL (cK (cB (cB (cK (cA (cB (cB (cL (cK (cB (cA (cB (cB impl_Algebra_fault.bd)))))))))))))) 2 (impl_Algebra_fault.st1 gv0 gv1 x2 x3) (roundK impl_Algebra_fault.kp 2 2 L1 (impl_Algebra_fault.k1g N L0 (impl_Algebra_fault.k0 N K gv0 gv1))) = (impl_Algebra_fault.b1 N (fun d0 d1 d2 => K (.slice true 2 0 d0 (.exact d1) 1) [⟨false, .flat 2 (.ints .i64 gv0)⟩, ⟨false, .flat 520 (.ints .u8 gv1)⟩, ⟨true, .flat 3 (.ints .i64 d2)⟩]) (K (.nils) [⟨false, .flat 2 (.ints .i64 gv0)⟩, ⟨false, .flat 520 (.ints .u8 gv1)⟩]) (fun x4 => xloop (xcode (E40 N) ents impl_Algebra_fault.kp 2 N (cL (cK (cB (cB (cK (cA (cB (cB (cL (cK (cB (cB (cK (cA (cB (cB (cL (cK (cB (cA (cB (cB impl_Algebra_fault.bd)))))))))))))))))))))) 4) impl_Algebra_fault.kp 2 4 N (impl_Algebra_fault.st2 gv0 gv1 x2 x3 x4) (impl_Algebra_fault.k2g N L1 (impl_Algebra_fault.k1g N L0 (impl_Algebra_fault.k0 N K gv0 gv1)))) (fun x3 => L1 (impl_Algebra_fault.st1 gv0 gv1 x2 x3)) ((impl_Algebra_fault.k1g N L0 (impl_Algebra_fault.k0 N K gv0 gv1)) (.exit 2) (impl_Algebra_fault.sx1_0 gv0 gv1 x2)) gv0 x3) := by
  have h := impl_Algebra_fault.b1_gen N K L1 (impl_Algebra_fault.k1g N L0 (impl_Algebra_fault.k0 N K gv0 gv1)) gv0 gv1 x2 x3
  rw [impl_Algebra_fault.k1_mix] at h
  exact h
theorem impl_Algebra_fault.a1_0_gen {ρ : Type} (N : Nat) (K : AV → Heap → Option ρ) (L0 : St → Option ρ) (kv : XE → St → Option ρ) (gv0 : Nat → Int) (gv1 : Nat → Int) (x2 : Int) :
    (impl_Algebra_fault.k1g N L0 (mixK (impl_Algebra_fault.fin N K gv0 gv1 .ret) kv)) (.exit 2) (impl_Algebra_fault.sx1_0 gv0 gv1 x2) = (impl_Algebra_fault.a1_0 N (fun d0 d1 d2 => K (.slice true 2 0 d0 (.exact d1) 1) [⟨false, .flat 2 (.ints .i64 gv0)⟩, ⟨false, .flat 520 (.ints .u8 gv1)⟩, ⟨true, .flat 3 (.ints .i64 d2)⟩]) (K (.nils) [⟨false, .flat 2 (.ints .i64 gv0)⟩, ⟨false, .flat 520 (.ints .u8 gv1)⟩]) (fun x2 => L0 (impl_Algebra_fault.st0 gv0 gv1 x2)) (kv (.exit 0) (impl_Algebra_fault.sx0_0 gv0 gv1)) x2) := by kernel_rfl
theorem impl_Algebra_fault.a1_0_eq {ρ : Type} (N : Nat) (K : AV → Heap → Option ρ) (L0 : St → Option ρ) (gv0 : Nat → Int) (gv1 : Nat → Int) (x2 : Int) :
    (impl_Algebra_fault.k1g N L0 (impl_Algebra_fault.k0 N K gv0 gv1)) (.exit 2) (impl_Algebra_fault.sx1_0 gv0 gv1 x2) = (impl_Algebra_fault.a1_0 N (fun d0 d1 d2 => K (.slice true 2 0 d0 (.exact d1) 1) [⟨false, .flat 2 (.ints .i64 gv0)⟩, ⟨false, .flat 520 (.ints .u8 gv1)⟩, ⟨true, .flat 3 (.ints .i64 d2)⟩]) (K (.nils) [⟨false, .flat 2 (.ints .i64 gv0)⟩, ⟨false, .flat 520 (.ints .u8 gv1)⟩]) (fun x2 => L0 (impl_Algebra_fault.st0 gv0 gv1 x2)) ((impl_Algebra_fault.k0 N K gv0 gv1) (.exit 0) (impl_Algebra_fault.sx0_0 gv0 gv1)) x2) := by
  have h := impl_Algebra_fault.a1_0_gen N K L0 (impl_Algebra_fault.k0 N K gv0 gv1) gv0 gv1 x2
  rw [impl_Algebra_fault.k0_mix] at h
  exact h
theorem impl_Algebra_fault.b0_gen {ρ : Type} (N : Nat) (K : AV → Heap → Option ρ) (L0 : St → Option ρ) (kv : XE → St → Option ρ) (gv0 : Nat → Int) (gv1 : Nat → Int) (x2 : Int) :
    xcode (E40 N) ents impl_Algebra_fault.kp 2 N (cL (cK (cB (cA (cB (cB impl_Algebra_fault.bd)))))) 0 (impl_Algebra_fault.st0 gv0 gv1 x2) (roundK impl_Algebra_fault.kp 2 0 L0 (mixK (impl_Algebra_fault.fin N K gv0 gv1 .ret) kv)) = (impl_Algebra_fault.b0 N (fun d0 d1 d2 => K (.slice true 2 0 d0 (.exact d1) 1) [⟨false, .flat 2 (.ints .i64 gv0)⟩, ⟨false, .flat 520 (.ints .u8 gv1)⟩, ⟨true, .flat 3 (.ints .i64 d2)⟩]) (K (.nils) [⟨false, .flat 2 (.ints .i64 gv0)⟩, ⟨false, .flat 520 (.ints .u8 gv1)⟩]) (fun x3 => xloop (xcode (E40 N) ents impl_Algebra_fault.kp 2 N (cL (cK (cB (cB (cK (cA (cB (cB (cL (cK (cB (cA (cB (cB impl_Algebra_fault.bd)))))))))))))) 2) impl_Algebra_fault.kp 2 2 N (impl_Algebra_fault.st1 gv0 gv1 x2 x3) (impl_Algebra_fault.k1g N L0 (mixK (impl_Algebra_fault.fin N K gv0 gv1 .ret) kv))) (fun x2 => L0 (impl_Algebra_fault.st0 gv0 gv1 x2)) (kv (.exit 0) (impl_Algebra_fault.sx0_0 gv0 gv1)) gv0 x2) := by kernel_rfl
theorem impl_Algebra_fault.b0_eq {ρ : Type} (N : Nat) (K : AV → Heap → Option ρ) (L0 : St → Option ρ) (gv0 : Nat → Int) (gv1 : Nat → Int) (x2 : Int) :
    xcode (E40 N) ents impl_Algebra_fault.kp 2 N (cL (cK (cB (cA (cB (cB impl_Algebra_fault.bd)))))) 0 (impl_Algebra_fault.st0 gv0 gv1 x2) (roundK impl_Algebra_fault.kp 2 0 L0 (impl_Algebra_fault.k0 N K gv0 gv1)) = (impl_Algebra_fault.b0 N (fun d0 d1 d2 => K (.slice true 2 0 d0 (.exact d1) 1) [⟨false, .flat 2 (.ints .i64 gv0)⟩, ⟨false, .flat 520 (.ints .u8 gv1)⟩, ⟨true, .flat 3 (.ints .i64 d2)⟩]) (K (.nils) [⟨false, .flat 2 (.ints .i64 gv0)⟩, ⟨false, .flat 520 (.ints .u8 gv1)⟩]) (fun x3 => xloop (xcode (E40 N) ents impl_Algebra_fault.kp 2 N (cL (cK (cB (cB (cK (cA (cB (cB (cL (cK (cB (cA (cB (cB impl_Algebra_fault.bd)))))))))))))) 2) impl_Algebra_fault.kp 2 2 N (impl_Algebra_fault.st1 gv0 gv1 x2 x3) (impl_Algebra_fault.k1g N L0 (impl_Algebra_fault.k0 N K gv0 gv1))) (fun x2 => L0 (impl_Algebra_fault.st0 gv0 gv1 x2)) ((impl_Algebra_fault.k0 N K gv0 gv1) (.exit 0) (impl_Algebra_fault.sx0_0 gv0 gv1)) gv0 x2) := by
  have h := impl_Algebra_fault.b0_gen N K L0 (impl_Algebra_fault.k0 N K gv0 gv1) gv0 gv1 x2
  rw [impl_Algebra_fault.k0_mix] at h
  exact h
theorem impl_Algebra_fault.a0_0_eq {ρ : Type} (N : Nat) (K : AV → Heap → Option ρ) (gv0 : Nat → Int) (gv1 : Nat → Int) :
    (impl_Algebra_fault.k0 N K gv0 gv1) (.exit 0) (impl_Algebra_fault.sx0_0 gv0 gv1) = (impl_Algebra_fault.a0_0 N (fun d0 d1 d2 => K (.slice true 2 0 d0 (.exact d1) 1) [⟨false, .flat 2 (.ints .i64 gv0)⟩, ⟨false, .flat 520 (.ints .u8 gv1)⟩, ⟨true, .flat 3 (.ints .i64 d2)⟩]) (K (.nils) [⟨false, .flat 2 (.ints .i64 gv0)⟩, ⟨false, .flat 520 (.ints .u8 gv1)⟩])) := by kernel_rfl
theorem impl_Algebra_fault.l2_eq {ρ : Type} (N : Nat) (K : AV → Heap → Option ρ) (L0 : St → Option ρ) (L1 : St → Option ρ) (gv0 : Nat → Int) (gv1 : Nat → Int) (x2 : Int) (x3 : Int) :
    ∀ (m : Nat) (x4 : Int), xloop (xcode (E40 N) ents impl_Algebra_fault.kp 2 N (cL (cK (cB (cB (cK (cA (cB (cB (cL (cK (cB (cB (cK (cA (cB (cB (cL (cK (cB (cA (cB (cB impl_Algebra_fault.bd)))))))))))))))))))))) 4) impl_Algebra_fault.kp 2 4 m (impl_Algebra_fault.st2 gv0 gv1 x2 x3 x4) (impl_Algebra_fault.k2g N L1 (impl_Algebra_fault.k1g N L0 (impl_Algebra_fault.k0 N K gv0 gv1))) = (impl_Algebra_fault.l2 N (fun d0 d1 d2 => K (.slice true 2 0 d0 (.exact d1) 1) [⟨false, .flat 2 (.ints .i64 gv0)⟩, ⟨false, .flat 520 (.ints .u8 gv1)⟩, ⟨true, .flat 3 (.ints .i64 d2)⟩]) (K (.nils) [⟨false, .flat 2 (.ints .i64 gv0)⟩, ⟨false, .flat 520 (.ints .u8 gv1)⟩]) gv0 gv1 x2 x3 ((impl_Algebra_fault.k2g N L1 (impl_Algebra_fault.k1g N L0 (impl_Algebra_fault.k0 N K gv0 gv1))) (.exit 4) (impl_Algebra_fault.sx2_0 gv0 gv1 x2 x3)) m x4) := by
  intro m
  induction m with
  | zero => intros; rfl
  | succ m ih =>
    intro x4
    refine (impl_Algebra_fault.b2_eq N K L0 L1 (fun s => xloop (xcode (E40 N) ents impl_Algebra_fault.kp 2 N (cL (cK (cB (cB (cK (cA (cB (cB (cL (cK (cB (cB (cK (cA (cB (cB (cL (cK (cB (cA (cB (cB impl_Algebra_fault.bd)))))))))))))))))))))) 4) impl_Algebra_fault.kp 2 4 m s (impl_Algebra_fault.k2g N L1 (impl_Algebra_fault.k1g N L0 (impl_Algebra_fault.k0 N K gv0 gv1)))) gv0 gv1 x2 x3 x4).trans ?_
    simp only [ih]
    kernel_rfl
theorem impl_Algebra_fault.l1_eq {ρ : Type} (N : Nat) (K : AV → Heap → Option ρ) (L0 : St → Option ρ) (gv0 : Nat → Int) (gv1 : Nat → Int) (x2 : Int) :
    ∀ (m : Nat) (x3 : Int), xloop (xcode (E40 N) ents impl_Algebra_fault.kp 2 N (cL (cK (cB (cB (cK (cA (cB (cB (cL (cK (cB (cA (cB (cB impl_Algebra_fault.bd)))))))))))))) 2) impl_Algebra_fault.kp 2 2 m (impl_Algebra_fault.st1 gv0 gv1 x2 x3) (impl_Algebra_fault.k1g N L0 (impl_Algebra_fault.k0 N K gv0 gv1)) = (impl_Algebra_fault.l1 N (fun d0 d1 d2 => K (.slice true 2 0 d0 (.exact d1) 1) [⟨false, .flat 2 (.ints .i64 gv0)⟩, ⟨false, .flat 520 (.ints .u8 gv1)⟩, ⟨true, .flat 3 (.ints .i64 d2)⟩]) (K (.nils) [⟨false, .flat 2 (.ints .i64 gv0)⟩, ⟨false, .flat 520 (.ints .u8 gv1)⟩]) gv0 gv1 x2 ((impl_Algebra_fault.k1g N L0 (impl_Algebra_fault.k0 N K gv0 gv1)) (.exit 2) (impl_Algebra_fault.sx1_0 gv0 gv1 x2)) m x3) := by
  intro m
  induction m with
  | zero => intros; rfl
  | succ m ih =>
    intro x3
    refine (impl_Algebra_fault.b1_eq N K L0 (fun s => xloop (xcode (E40 N) ents impl_Algebra_fault.kp 2 N (cL (cK (cB (cB (cK (cA (cB (cB (cL (cK (cB (cA (cB (cB impl_Algebra_fault.bd)))))))))))))) 2) impl_Algebra_fault.kp 2 2 m s (impl_Algebra_fault.k1g N L0 (impl_Algebra_fault.k0 N K gv0 gv1))) gv0 gv1 x2 x3).trans ?_
    simp only [ih, impl_Algebra_fault.l2_eq, impl_Algebra_fault.a2_0_eq]
    kernel_rfl
theorem impl_Algebra_fault.l0_eq {ρ : Type} (N : Nat) (K : AV → Heap → Option ρ) (gv0 : Nat → Int) (gv1 : Nat → Int) :
    ∀ (m : Nat) (x2 : Int), xloop (xcode (E40 N) ents impl_Algebra_fault.kp 2 N (cL (cK (cB (cA (cB (cB impl_Algebra_fault.bd)))))) 0) impl_Algebra_fault.kp 2 0 m (impl_Algebra_fault.st0 gv0 gv1 x2) (impl_Algebra_fault.k0 N K gv0 gv1) = (impl_Algebra_fault.l0 N (fun d0 d1 d2 => K (.slice true 2 0 d0 (.exact d1) 1) [⟨false, .flat 2 (.ints .i64 gv0)⟩, ⟨false, .flat 520 (.ints .u8 gv1)⟩, ⟨true, .flat 3 (.ints .i64 d2)⟩]) (K (.nils) [⟨false, .flat 2 (.ints .i64 gv0)⟩, ⟨false, .flat 520 (.ints .u8 gv1)⟩]) gv0 gv1 ((impl_Algebra_fault.k0 N K gv0 gv1) (.exit 0) (impl_Algebra_fault.sx0_0 gv0 gv1)) m x2) := by
  intro m
  induction m with
  | zero => intros; rfl
  | succ m ih =>
    intro x2
    refine (impl_Algebra_fault.b0_eq N K (fun s => xloop (xcode (E40 N) ents impl_Algebra_fault.kp 2 N (cL (cK (cB (cA (cB (cB impl_Algebra_fault.bd)))))) 0) impl_Algebra_fault.kp 2 0 m s (impl_Algebra_fault.k0 N K gv0 gv1)) gv0 gv1 x2).trans ?_
    simp only [ih, impl_Algebra_fault.l1_eq, impl_Algebra_fault.a1_0_eq]
    kernel_rfl
theorem impl_Algebra_fault.s_eq {ρ : Type} (N : Nat) (K : AV → Heap → Option ρ) (gv0 : Nat → Int) (gv1 : Nat → Int) :
    xbody (E40 N) ents impl_Algebra_fault.kp N Try.f53 impl_Algebra_fault.bd [.sptr [(0, 2), (1, 520)]] [⟨false, .flat 2 (.ints .i64 gv0)⟩, ⟨false, .flat 520 (.ints .u8 gv1)⟩] K = (impl_Algebra_fault.s N (fun d0 d1 d2 => K (.slice true 2 0 d0 (.exact d1) 1) [⟨false, .flat 2 (.ints .i64 gv0)⟩, ⟨false, .flat 520 (.ints .u8 gv1)⟩, ⟨true, .flat 3 (.ints .i64 d2)⟩]) (K (.nils) [⟨false, .flat 2 (.ints .i64 gv0)⟩, ⟨false, .flat 520 (.ints .u8 gv1)⟩]) (fun x2 => xloop (xcode (E40 N) ents impl_Algebra_fault.kp 2 N (cL (cK (cB (cA (cB (cB impl_Algebra_fault.bd)))))) 0) impl_Algebra_fault.kp 2 0 N (impl_Algebra_fault.st0 gv0 gv1 x2) (impl_Algebra_fault.k0 N K gv0 gv1))) := by kernel_rfl
theorem impl_Algebra_fault.eq {ρ : Type} (N : Nat) (K : AV → Heap → Option ρ) (gv0 : Nat → Int) (gv1 : Nat → Int) :
    xbody (E40 N) ents impl_Algebra_fault.kp N Try.f53 impl_Algebra_fault.bd [.sptr [(0, 2), (1, 520)]] [⟨false, .flat 2 (.ints .i64 gv0)⟩, ⟨false, .flat 520 (.ints .u8 gv1)⟩] K = (impl_Algebra_fault N (fun d0 d1 d2 => K (.slice true 2 0 d0 (.exact d1) 1) [⟨false, .flat 2 (.ints .i64 gv0)⟩, ⟨false, .flat 520 (.ints .u8 gv1)⟩, ⟨true, .flat 3 (.ints .i64 d2)⟩]) (K (.nils) [⟨false, .flat 2 (.ints .i64 gv0)⟩, ⟨false, .flat 520 (.ints .u8 gv1)⟩]) gv0 gv1) := by
  refine (impl_Algebra_fault.s_eq N K gv0 gv1).trans ?_
  simp only [impl_Algebra_fault.l0_eq, impl_Algebra_fault.a0_0_eq]
  kernel_rfl
def impl_Algebra_fault.en (N : Nat) (ρ : Type) : List AV → Heap → (AV → Heap → Option ρ) → Option ρ
  | [.sptr [(0, 2), (1, 520)]], [⟨false, .flat 2 (.ints .i64 gv0)⟩, ⟨false, .flat 520 (.ints .u8 gv1)⟩], K => (impl_Algebra_fault N (fun d0 d1 d2 => K (.slice true 2 0 d0 (.exact d1) 1) [⟨false, .flat 2 (.ints .i64 gv0)⟩, ⟨false, .flat 520 (.ints .u8 gv1)⟩, ⟨true, .flat 3 (.ints .i64 d2)⟩]) (K (.nils) [⟨false, .flat 2 (.ints .i64 gv0)⟩, ⟨false, .flat 520 (.ints .u8 gv1)⟩]) gv0 gv1)
  | _, _, _ => none
theorem impl_Algebra_fault.en_ok (N : Nat) (hE : EnvOk (E40 N) ents) (ρ : Type) (args : List AV) (sh : Heap) (K : AV → Heap → Option ρ) (r : ρ) (h : impl_Algebra_fault.en N ρ args sh K = some r) : ∃ v sh', K v sh' = some r ∧ FnOk (E40 N).P 53 args sh v sh' := by
  unfold impl_Algebra_fault.en at h
  split at h
  · exact fn_ok hE (kp := impl_Algebra_fault.kp) (N := N) Try.func53 (c := impl_Algebra_fault.bd) (by kernel_rfl) ((impl_Algebra_fault.eq N _ _ _).trans h)
  · cases h
def E41 (N : Nat) : Env := (E40 N).add 53 (impl_Algebra_fault.en N)
theorem E41_ok (N : Nat) : EnvOk (E41 N) ents := Env.add_ok (E40_ok N) (impl_Algebra_fault.en_ok N (E40_ok N))
def impl_IsAlgebra.kp : Keeps := ⟨[(0, [1, 8, 9], [], [])], [(0, [1], [], [])], []⟩
def impl_IsAlgebra.bd : Code := bodyOf Try.f16
def impl_IsAlgebra.fin {ρ : Type} (N : Nat) (K : AV → Heap → Option ρ) : XE → St → Option ρ := finK (E41 N) impl_IsAlgebra.kp.fins Try.f16 [] K
def impl_IsAlgebra.k0 {ρ : Type} (N : Nat) (K : AV → Heap → Option ρ) : XE → St → Option ρ := (blockK impl_IsAlgebra.kp 0 0 (seqK (xcode (E41 N) ents impl_IsAlgebra.kp 0 N (cB (cB (cB impl_IsAlgebra.bd))) 0) (impl_IsAlgebra.fin N K)))
theorem impl_IsAlgebra.k0_mix {ρ : Type} (N : Nat) (K : AV → Heap → Option ρ) : mixK (impl_IsAlgebra.fin N K .ret) (impl_IsAlgebra.k0 N K) = (impl_IsAlgebra.k0 N K) := by
  funext e s; cases e <;> kernel_rfl
def impl_IsAlgebra.st0 (av0 : Nat → Int) (av1 : Nat → Int) (x3 : Int) : St := ⟨sl 31 [(1, .sptr [(0, 2), (1, 520)]), (8, .int .i64 ((av0 1))), (9, .int .i64 (x3))], [⟨true, .flat 2 (.ints .i64 av0)⟩, ⟨true, .flat 520 (.ints .u8 av1)⟩]⟩
def impl_IsAlgebra.sx0_0 (av0 : Nat → Int) (av1 : Nat → Int) : St := ⟨sl 31 [(1, .sptr [(0, 2), (1, 520)])], [⟨true, .flat 2 (.ints .i64 av0)⟩, ⟨true, .flat 520 (.ints .u8 av1)⟩]⟩
theorem impl_IsAlgebra.b0_gen {ρ : Type} (N : Nat) (K : AV → Heap → Option ρ) (L0 : St → Option ρ) (kv : XE → St → Option ρ) (av0 : Nat → Int) (av1 : Nat → Int) (x3 : Int) :
    xcode (E41 N) ents impl_IsAlgebra.kp 0 N (cL (cK (cB (cA (cB (cB impl_IsAlgebra.bd)))))) 0 (impl_IsAlgebra.st0 av0 av1 x3) (roundK impl_IsAlgebra.kp 0 0 L0 (mixK (impl_IsAlgebra.fin N K .ret) kv)) = (impl_IsAlgebra.b0 N (fun d0 => K (.bool (d0)) []) (fun x3 => L0 (impl_IsAlgebra.st0 av0 av1 x3)) (kv (.exit 0) (impl_IsAlgebra.sx0_0 av0 av1)) av0 av1 x3) := by kernel_rfl
theorem impl_IsAlgebra.b0_eq {ρ : Type} (N : Nat) (K : AV → Heap → Option ρ) (L0 : St → Option ρ) (av0 : Nat → Int) (av1 : Nat → Int) (x3 : Int) :
    xcode (E41 N) ents impl_IsAlgebra.kp 0 N (cL (cK (cB (cA (cB (cB impl_IsAlgebra.bd)))))) 0 (impl_IsAlgebra.st0 av0 av1 x3) (roundK impl_IsAlgebra.kp 0 0 L0 (impl_IsAlgebra.k0 N K)) = (impl_IsAlgebra.b0 N (fun d0 => K (.bool (d0)) []) (fun x3 => L0 (impl_IsAlgebra.st0 av0 av1 x3)) ((impl_IsAlgebra.k0 N K) (.exit 0) (impl_IsAlgebra.sx0_0 av0 av1)) av0 av1 x3) := by
  have h := impl_IsAlgebra.b0_gen N K L0 (impl_IsAlgebra.k0 N K) av0 av1 x3
  rw [impl_IsAlgebra.k0_mix] at h
  exact h
theorem impl_IsAlgebra.a0_0_eq {ρ : Type} (N : Nat) (K : AV → Heap → Option ρ) (av0 : Nat → Int) (av1 : Nat → Int) :
    (impl_IsAlgebra.k0 N K) (.exit 0) (impl_IsAlgebra.sx0_0 av0 av1) = (impl_IsAlgebra.a0_0 N (fun d0 => K (.bool (d0)) []) av0 av1) := by kernel_rfl
theorem impl_IsAlgebra.l0_eq {ρ : Type} (N : Nat) (K : AV → Heap → Option ρ) (av0 : Nat → Int) (av1 : Nat → Int) :
    ∀ (m : Nat) (x3 : Int), xloop (xcode (E41 N) ents impl_IsAlgebra.kp 0 N (cL (cK (cB (cA (cB (cB impl_IsAlgebra.bd)))))) 0) impl_IsAlgebra.kp 0 0 m (impl_IsAlgebra.st0 av0 av1 x3) (impl_IsAlgebra.k0 N K) = (impl_IsAlgebra.l0 N (fun d0 => K (.bool (d0)) []) av0 av1 ((impl_IsAlgebra.k0 N K) (.exit 0) (impl_IsAlgebra.sx0_0 av0 av1)) m x3) := by
  intro m
  induction m with
  | zero => intros; rfl
  | succ m ih =>
    intro x3
    refine (impl_IsAlgebra.b0_eq N K (fun s => xloop (xcode (E41 N) ents impl_IsAlgebra.kp 0 N (cL (cK (cB (cA (cB (cB impl_IsAlgebra.bd)))))) 0) impl_IsAlgebra.kp 0 0 m s (impl_IsAlgebra.k0 N K)) av0 av1 x3).trans ?_
    simp only [ih]
    kernel_rfl
theorem impl_IsAlgebra.s_eq {ρ : Type} (N : Nat) (K : AV → Heap → Option ρ) (av0 : Nat → Int) (av1 : Nat → Int) :
    xbody (E41 N) ents impl_IsAlgebra.kp N Try.f16 impl_IsAlgebra.bd [.agg [⟨.i64, 2, av0⟩, ⟨.u8, 520, av1⟩]] [] K = (impl_IsAlgebra.s N (fun d0 => K (.bool (d0)) []) (fun x3 => xloop (xcode (E41 N) ents impl_IsAlgebra.kp 0 N (cL (cK (cB (cA (cB (cB impl_IsAlgebra.bd)))))) 0) impl_IsAlgebra.kp 0 0 N (impl_IsAlgebra.st0 av0 av1 x3) (impl_IsAlgebra.k0 N K)) av0 av1) := by kernel_rfl
theorem impl_IsAlgebra.eq {ρ : Type} (N : Nat) (K : AV → Heap → Option ρ) (av0 : Nat → Int) (av1 : Nat → Int) :
    xbody (E41 N) ents impl_IsAlgebra.kp N Try.f16 impl_IsAlgebra.bd [.agg [⟨.i64, 2, av0⟩, ⟨.u8, 520, av1⟩]] [] K = (impl_IsAlgebra N (fun d0 => K (.bool (d0)) []) av0 av1) := by
  refine (impl_IsAlgebra.s_eq N K av0 av1).trans ?_
  simp only [impl_IsAlgebra.l0_eq, impl_IsAlgebra.a0_0_eq]
  kernel_rfl
def impl_IsAlgebra.en (N : Nat) (ρ : Type) : List AV → Heap → (AV → Heap → Option ρ) → Option ρ
  | [.agg [⟨.i64, 2, av0⟩, ⟨.u8, 520, av1⟩]], [], K => (impl_IsAlgebra N (fun d0 => K (.bool (d0)) []) av0 av1)
  | _, _, _ => none
theorem impl_IsAlgebra.en_ok (N : Nat) (hE : EnvOk (E41 N) ents) (ρ : Type) (args : List AV) (sh : Heap) (K : AV → Heap → Option ρ) (r : ρ) (h : impl_IsAlgebra.en N ρ args sh K = some r) : ∃ v sh', K v sh' = some r ∧ FnOk (E41 N).P 16 args sh v sh' := by
  unfold impl_IsAlgebra.en at h
  split at h
  · exact fn_ok hE (kp := impl_IsAlgebra.kp) (N := N) Try.func16 (c := impl_IsAlgebra.bd) (by kernel_rfl) ((impl_IsAlgebra.eq N _ _ _).trans h)
  · cases h
def E42 (N : Nat) : Env := (E41 N).add 16 (impl_IsAlgebra.en N)
theorem E42_ok (N : Nat) : EnvOk (E42 N) ents := Env.add_ok (E41_ok N) (impl_IsAlgebra.en_ok N (E41_ok N))
def slices_IndexFunc_nf.kp : Keeps := ⟨[(0, [0, 1, 7, 8], [], [])], [(0, [], [], [])], []⟩
def slices_IndexFunc_nf.bd : Code := bodyOf Try.f117
def slices_IndexFunc_nf.fin {ρ : Type} (N : Nat) (K : AV → Heap → Option ρ) (gv0 : Nat → Int) (gv1 : Nat → Int) : XE → St → Option ρ := finK (E42 N) slices_IndexFunc_nf.kp.fins Try.f117 [⟨false, .avs [.sptr [(1, 2), (2, 520)]]⟩, ⟨false, .flat 2 (.ints .i64 gv0)⟩, ⟨false, .flat 520 (.ints .u8 gv1)⟩] K
def slices_IndexFunc_nf.k0 {ρ : Type} (N : Nat) (K : AV → Heap → Option ρ) (gv0 : Nat → Int) (gv1 : Nat → Int) : XE → St → Option ρ := (blockK slices_IndexFunc_nf.kp 3 0 (seqK (xcode (E42 N) ents slices_IndexFunc_nf.kp 3 N (cB (cB slices_IndexFunc_nf.bd)) 0) (slices_IndexFunc_nf.fin N K gv0 gv1)))
theorem slices_IndexFunc_nf.k0_mix {ρ : Type} (N : Nat) (K : AV → Heap → Option ρ) (gv0 : Nat → Int) (gv1 : Nat → Int) : mixK (slices_IndexFunc_nf.fin N K gv0 gv1 .ret) (slices_IndexFunc_nf.k0 N K gv0 gv1) = (slices_IndexFunc_nf.k0 N K gv0 gv1) := by
  funext e s; cases e <;> kernel_rfl
def slices_IndexFunc_nf.st0 (gv0 : Nat → Int) (gv1 : Nat → Int) : St := ⟨sl 19 [(0, .nils), (1, .fn 106 0 [[(0, 1)]]), (7, .int .i64 0), (8, .int .i64 0)], [⟨false, .avs [.sptr [(1, 2), (2, 520)]]⟩, ⟨false, .flat 2 (.ints .i64 gv0)⟩, ⟨false, .flat 520 (.ints .u8 gv1)⟩]⟩
def slices_IndexFunc_nf.sx0_0 (gv0 : Nat → Int) (gv1 : Nat → Int) : St := ⟨sl 19 [], [⟨false, .avs [.sptr [(1, 2), (2, 520)]]⟩, ⟨false, .flat 2 (.ints .i64 gv0)⟩, ⟨false, .flat 520 (.ints .u8 gv1)⟩]⟩
theorem slices_IndexFunc_nf.b0_gen {ρ : Type} (N : Nat) (K : AV → Heap → Option ρ) (L0 : St → Option ρ) (kv : XE → St → Option ρ) (gv0 : Nat → Int) (gv1 : Nat → Int) :
    xcode (E42 N) ents slices_IndexFunc_nf.kp 3 N (cL (cK (cB (cA (cB slices_IndexFunc_nf.bd))))) 0 (slices_IndexFunc_nf.st0 gv0 gv1) (roundK slices_IndexFunc_nf.kp 3 0 L0 (mixK (slices_IndexFunc_nf.fin N K gv0 gv1 .ret) kv)) = (slices_IndexFunc_nf.b0 N (fun d0 => K (.int .i64 (d0)) [⟨false, .avs [.sptr [(1, 2), (2, 520)]]⟩, ⟨false, .flat 2 (.ints .i64 gv0)⟩, ⟨false, .flat 520 (.ints .u8 gv1)⟩]) (L0 (slices_IndexFunc_nf.st0 gv0 gv1)) (kv (.exit 0) (slices_IndexFunc_nf.sx0_0 gv0 gv1))) := by kernel_rfl
theorem slices_IndexFunc_nf.b0_eq {ρ : Type} (N : Nat) (K : AV → Heap → Option ρ) (L0 : St → Option ρ) (gv0 : Nat → Int) (gv1 : Nat → Int) :
    xcode (E42 N) ents slices_IndexFunc_nf.kp 3 N (cL (cK (cB (cA (cB slices_IndexFunc_nf.bd))))) 0 (slices_IndexFunc_nf.st0 gv0 gv1) (roundK slices_IndexFunc_nf.kp 3 0 L0 (slices_IndexFunc_nf.k0 N K gv0 gv1)) = (slices_IndexFunc_nf.b0 N (fun d0 => K (.int .i64 (d0)) [⟨false, .avs [.sptr [(1, 2), (2, 520)]]⟩, ⟨false, .flat 2 (.ints .i64 gv0)⟩, ⟨false, .flat 520 (.ints .u8 gv1)⟩]) (L0 (slices_IndexFunc_nf.st0 gv0 gv1)) ((slices_IndexFunc_nf.k0 N K gv0 gv1) (.exit 0) (slices_IndexFunc_nf.sx0_0 gv0 gv1))) := by
  have h := slices_IndexFunc_nf.b0_gen N K L0 (slices_IndexFunc_nf.k0 N K gv0 gv1) gv0 gv1
  rw [slices_IndexFunc_nf.k0_mix] at h
  exact h
theorem slices_IndexFunc_nf.a0_0_eq {ρ : Type} (N : Nat) (K : AV → Heap → Option ρ) (gv0 : Nat → Int) (gv1 : Nat → Int) :
    (slices_IndexFunc_nf.k0 N K gv0 gv1) (.exit 0) (slices_IndexFunc_nf.sx0_0 gv0 gv1) = (slices_IndexFunc_nf.a0_0 N (fun d0 => K (.int .i64 (d0)) [⟨false, .avs [.sptr [(1, 2), (2, 520)]]⟩, ⟨false, .flat 2 (.ints .i64 gv0)⟩, ⟨false, .flat 520 (.ints .u8 gv1)⟩])) := by kernel_rfl
theorem slices_IndexFunc_nf.l0_eq {ρ : Type} (N : Nat) (K : AV → Heap → Option ρ) (gv0 : Nat → Int) (gv1 : Nat → Int) :
    ∀ (m : Nat), xloop (xcode (E42 N) ents slices_IndexFunc_nf.kp 3 N (cL (cK (cB (cA (cB slices_IndexFunc_nf.bd))))) 0) slices_IndexFunc_nf.kp 3 0 m (slices_IndexFunc_nf.st0 gv0 gv1) (slices_IndexFunc_nf.k0 N K gv0 gv1) = (slices_IndexFunc_nf.l0 N (fun d0 => K (.int .i64 (d0)) [⟨false, .avs [.sptr [(1, 2), (2, 520)]]⟩, ⟨false, .flat 2 (.ints .i64 gv0)⟩, ⟨false, .flat 520 (.ints .u8 gv1)⟩]) ((slices_IndexFunc_nf.k0 N K gv0 gv1) (.exit 0) (slices_IndexFunc_nf.sx0_0 gv0 gv1)) m) := by
  intro m
  induction m with
  | zero => intros; rfl
  | succ m ih =>
    refine (slices_IndexFunc_nf.b0_eq N K (fun s => xloop (xcode (E42 N) ents slices_IndexFunc_nf.kp 3 N (cL (cK (cB (cA (cB slices_IndexFunc_nf.bd))))) 0) slices_IndexFunc_nf.kp 3 0 m s (slices_IndexFunc_nf.k0 N K gv0 gv1)) gv0 gv1).trans ?_
    simp only [ih]
    kernel_rfl
theorem slices_IndexFunc_nf.s_eq {ρ : Type} (N : Nat) (K : AV → Heap → Option ρ) (gv0 : Nat → Int) (gv1 : Nat → Int) :
    xbody (E42 N) ents slices_IndexFunc_nf.kp N Try.f117 slices_IndexFunc_nf.bd [.nils, .fn 106 0 [[(0, 1)]]] [⟨false, .avs [.sptr [(1, 2), (2, 520)]]⟩, ⟨false, .flat 2 (.ints .i64 gv0)⟩, ⟨false, .flat 520 (.ints .u8 gv1)⟩] K = (slices_IndexFunc_nf.s N (fun d0 => K (.int .i64 (d0)) [⟨false, .avs [.sptr [(1, 2), (2, 520)]]⟩, ⟨false, .flat 2 (.ints .i64 gv0)⟩, ⟨false, .flat 520 (.ints .u8 gv1)⟩]) (xloop (xcode (E42 N) ents slices_IndexFunc_nf.kp 3 N (cL (cK (cB (cA (cB slices_IndexFunc_nf.bd))))) 0) slices_IndexFunc_nf.kp 3 0 N (slices_IndexFunc_nf.st0 gv0 gv1) (slices_IndexFunc_nf.k0 N K gv0 gv1))) := by kernel_rfl
theorem slices_IndexFunc_nf.eq {ρ : Type} (N : Nat) (K : AV → Heap → Option ρ) (gv0 : Nat → Int) (gv1 : Nat → Int) :
    xbody (E42 N) ents slices_IndexFunc_nf.kp N Try.f117 slices_IndexFunc_nf.bd [.nils, .fn 106 0 [[(0, 1)]]] [⟨false, .avs [.sptr [(1, 2), (2, 520)]]⟩, ⟨false, .flat 2 (.ints .i64 gv0)⟩, ⟨false, .flat 520 (.ints .u8 gv1)⟩] K = (slices_IndexFunc_nf N (fun d0 => K (.int .i64 (d0)) [⟨false, .avs [.sptr [(1, 2), (2, 520)]]⟩, ⟨false, .flat 2 (.ints .i64 gv0)⟩, ⟨false, .flat 520 (.ints .u8 gv1)⟩]) gv0 gv1) := by
  refine (slices_IndexFunc_nf.s_eq N K gv0 gv1).trans ?_
  simp only [slices_IndexFunc_nf.l0_eq, slices_IndexFunc_nf.a0_0_eq]
  kernel_rfl
def slices_IndexFunc_nf.en (N : Nat) (ρ : Type) : List AV → Heap → (AV → Heap → Option ρ) → Option ρ
  | [.nils, .fn 106 0 [[(0, 1)]]], [⟨false, .avs [.sptr [(1, 2), (2, 520)]]⟩, ⟨false, .flat 2 (.ints .i64 gv0)⟩, ⟨false, .flat 520 (.ints .u8 gv1)⟩], K => (slices_IndexFunc_nf N (fun d0 => K (.int .i64 (d0)) [⟨false, .avs [.sptr [(1, 2), (2, 520)]]⟩, ⟨false, .flat 2 (.ints .i64 gv0)⟩, ⟨false, .flat 520 (.ints .u8 gv1)⟩]) gv0 gv1)
  | _, _, _ => none
theorem slices_IndexFunc_nf.en_ok (N : Nat) (hE : EnvOk (E42 N) ents) (ρ : Type) (args : List AV) (sh : Heap) (K : AV → Heap → Option ρ) (r : ρ) (h : slices_IndexFunc_nf.en N ρ args sh K = some r) : ∃ v sh', K v sh' = some r ∧ FnOk (E42 N).P 117 args sh v sh' := by
  unfold slices_IndexFunc_nf.en at h
  split at h
  · exact fn_ok hE (kp := slices_IndexFunc_nf.kp) (N := N) Try.func117 (c := slices_IndexFunc_nf.bd) (by kernel_rfl) ((slices_IndexFunc_nf.eq N _ _ _).trans h)
  · cases h
def E43 (N : Nat) : Env := (E42 N).add 117 (slices_IndexFunc_nf.en N)
theorem E43_ok (N : Nat) : EnvOk (E43 N) ents := Env.add_ok (E42_ok N) (slices_IndexFunc_nf.en_ok N (E42_ok N))
def slices_ContainsFunc_nf.kp : Keeps := ⟨[], [], []⟩
def slices_ContainsFunc_nf.bd : Code := bodyOf Try.f105
def slices_ContainsFunc_nf.fin {ρ : Type} (N : Nat) (K : AV → Heap → Option ρ) (gv0 : Nat → Int) (gv1 : Nat → Int) : XE → St → Option ρ := finK (E43 N) slices_ContainsFunc_nf.kp.fins Try.f105 [⟨false, .avs [.sptr [(1, 2), (2, 520)]]⟩, ⟨false, .flat 2 (.ints .i64 gv0)⟩, ⟨false, .flat 520 (.ints .u8 gv1)⟩] K
theorem slices_ContainsFunc_nf.eq {ρ : Type} (N : Nat) (K : AV → Heap → Option ρ) (gv0 : Nat → Int) (gv1 : Nat → Int) :
    xbody (E43 N) ents slices_ContainsFunc_nf.kp N Try.f105 slices_ContainsFunc_nf.bd [.nils, .fn 106 0 [[(0, 1)]]] [⟨false, .avs [.sptr [(1, 2), (2, 520)]]⟩, ⟨false, .flat 2 (.ints .i64 gv0)⟩, ⟨false, .flat 520 (.ints .u8 gv1)⟩] K = (slices_ContainsFunc_nf N (fun d0 => K (.bool (d0)) [⟨false, .avs [.sptr [(1, 2), (2, 520)]]⟩, ⟨false, .flat 2 (.ints .i64 gv0)⟩, ⟨false, .flat 520 (.ints .u8 gv1)⟩]) gv0 gv1) := by kernel_rfl
def slices_ContainsFunc_nf.en (N : Nat) (ρ : Type) : List AV → Heap → (AV → Heap → Option ρ) → Option ρ
  | [.nils, .fn 106 0 [[(0, 1)]]], [⟨false, .avs [.sptr [(1, 2), (2, 520)]]⟩, ⟨false, .flat 2 (.ints .i64 gv0)⟩, ⟨false, .flat 520 (.ints .u8 gv1)⟩], K => (slices_ContainsFunc_nf N (fun d0 => K (.bool (d0)) [⟨false, .avs [.sptr [(1, 2), (2, 520)]]⟩, ⟨false, .flat 2 (.ints .i64 gv0)⟩, ⟨false, .flat 520 (.ints .u8 gv1)⟩]) gv0 gv1)
  | _, _, _ => none
theorem slices_ContainsFunc_nf.en_ok (N : Nat) (hE : EnvOk (E43 N) ents) (ρ : Type) (args : List AV) (sh : Heap) (K : AV → Heap → Option ρ) (r : ρ) (h : slices_ContainsFunc_nf.en N ρ args sh K = some r) : ∃ v sh', K v sh' = some r ∧ FnOk (E43 N).P 105 args sh v sh' := by
  unfold slices_ContainsFunc_nf.en at h
  split at h
  · exact fn_ok hE (kp := slices_ContainsFunc_nf.kp) (N := N) Try.func105 (c := slices_ContainsFunc_nf.bd) (by kernel_rfl) ((slices_ContainsFunc_nf.eq N _ _ _).trans h)
  · cases h
def E44 (N : Nat) : Env := (E43 N).add 105 (slices_ContainsFunc_nf.en N)
theorem E44_ok (N : Nat) : EnvOk (E44 N) ents := Env.add_ok (E43_ok N) (slices_ContainsFunc_nf.en_ok N (E43_ok N))
def impl_Algebra_has_n.kp : Keeps := ⟨[], [], []⟩
def impl_Algebra_has_n.bd : Code := bodyOf Try.f89
def impl_Algebra_has_n.fin {ρ : Type} (N : Nat) (K : AV → Heap → Option ρ) (gv0 : Nat → Int) (gv1 : Nat → Int) : XE → St → Option ρ := finK (E44 N) impl_Algebra_has_n.kp.fins Try.f89 [⟨false, .flat 2 (.ints .i64 gv0)⟩, ⟨false, .flat 520 (.ints .u8 gv1)⟩] K
theorem impl_Algebra_has_n.eq {ρ : Type} (N : Nat) (K : AV → Heap → Option ρ) (gv0 : Nat → Int) (gv1 : Nat → Int) :
    xbody (E44 N) ents impl_Algebra_has_n.kp N Try.f89 impl_Algebra_has_n.bd [.sptr [(0, 2), (1, 520)], .nils] [⟨false, .flat 2 (.ints .i64 gv0)⟩, ⟨false, .flat 520 (.ints .u8 gv1)⟩] K = (impl_Algebra_has_n N (fun d0 => K (.bool (d0)) [⟨false, .flat 2 (.ints .i64 gv0)⟩, ⟨false, .flat 520 (.ints .u8 gv1)⟩]) gv0 gv1) := by kernel_rfl
def impl_Algebra_has_n.en (N : Nat) (ρ : Type) : List AV → Heap → (AV → Heap → Option ρ) → Option ρ
  | [.sptr [(0, 2), (1, 520)], .nils], [⟨false, .flat 2 (.ints .i64 gv0)⟩, ⟨false, .flat 520 (.ints .u8 gv1)⟩], K => (impl_Algebra_has_n N (fun d0 => K (.bool (d0)) [⟨false, .flat 2 (.ints .i64 gv0)⟩, ⟨false, .flat 520 (.ints .u8 gv1)⟩]) gv0 gv1)
  | _, _, _ => none
theorem impl_Algebra_has_n.en_ok (N : Nat) (hE : EnvOk (E44 N) ents) (ρ : Type) (args : List AV) (sh : Heap) (K : AV → Heap → Option ρ) (r : ρ) (h : impl_Algebra_has_n.en N ρ args sh K = some r) : ∃ v sh', K v sh' = some r ∧ FnOk (E44 N).P 89 args sh v sh' := by
  unfold impl_Algebra_has_n.en at h
  split at h
  · exact fn_ok hE (kp := impl_Algebra_has_n.kp) (N := N) Try.func89 (c := impl_Algebra_has_n.bd) (by kernel_rfl) ((impl_Algebra_has_n.eq N _ _ _).trans h)
  · cases h
def E45 (N : Nat) : Env := (E44 N).add 89 (impl_Algebra_has_n.en N)
theorem E45_ok (N : Nat) : EnvOk (E45 N) ents := Env.add_ok (E44_ok N) (impl_Algebra_has_n.en_ok N (E44_ok N))
def impl_unless.kp : Keeps := ⟨[], [], []⟩
def impl_unless.bd : Code := bodyOf Try.f56
def impl_unless.fin {ρ : Type} (N : Nat) (K : AV → Heap → Option ρ) : XE → St → Option ρ := finK (E45 N) impl_unless.kp.fins Try.f56 [] K
theorem impl_unless.eq {ρ : Type} (N : Nat) (K : AV → Heap → Option ρ) (so0 : Bool) (code1 : Int) :
    xbody (E45 N) ents impl_unless.kp N Try.f56 impl_unless.bd [.bool (so0), .int .i64 (code1)] [] K = (impl_unless N (fun d0 => K (.int .i64 (d0)) []) so0 code1) := by kernel_rfl
def impl_unless.en (N : Nat) (ρ : Type) : List AV → Heap → (AV → Heap → Option ρ) → Option ρ
  | [.bool (so0), .int .i64 (code1)], [], K => (impl_unless N (fun d0 => K (.int .i64 (d0)) []) so0 code1)
  | _, _, _ => none
theorem impl_unless.en_ok (N : Nat) (hE : EnvOk (E45 N) ents) (ρ : Type) (args : List AV) (sh : Heap) (K : AV → Heap → Option ρ) (r : ρ) (h : impl_unless.en N ρ args sh K = some r) : ∃ v sh', K v sh' = some r ∧ FnOk (E45 N).P 56 args sh v sh' := by
  unfold impl_unless.en at h
  split at h
  · exact fn_ok hE (kp := impl_unless.kp) (N := N) Try.func56 (c := impl_unless.bd) (by kernel_rfl) ((impl_unless.eq N _ _ _).trans h)
  · cases h
def E46 (N : Nat) : Env := (E45 N).add 56 (impl_unless.en N)
theorem E46_ok (N : Nat) : EnvOk (E46 N) ents := Env.add_ok (E45_ok N) (impl_unless.en_ok N (E45_ok N))
def impl_Algebra_code_n.kp : Keeps := ⟨[], [], []⟩
def impl_Algebra_code_n.bd : Code := bodyOf Try.f57
def impl_Algebra_code_n.fin {ρ : Type} (N : Nat) (K : AV → Heap → Option ρ) (gv0 : Nat → Int) (gv1 : Nat → Int) : XE → St → Option ρ := finK (E46 N) impl_Algebra_code_n.kp.fins Try.f57 [⟨false, .flat 2 (.ints .i64 gv0)⟩, ⟨false, .flat 520 (.ints .u8 gv1)⟩] K
theorem impl_Algebra_code_n.eq {ρ : Type} (N : Nat) (K : AV → Heap → Option ρ) (gv0 : Nat → Int) (gv1 : Nat → Int) :
    xbody (E46 N) ents impl_Algebra_code_n.kp N Try.f57 impl_Algebra_code_n.bd [.sptr [(0, 2), (1, 520)], .nils] [⟨false, .flat 2 (.ints .i64 gv0)⟩, ⟨false, .flat 520 (.ints .u8 gv1)⟩] K = (impl_Algebra_code_n N (fun d0 => K (.int .i64 (d0)) [⟨false, .flat 2 (.ints .i64 gv0)⟩, ⟨false, .flat 520 (.ints .u8 gv1)⟩]) gv0 gv1) := by kernel_rfl
def impl_Algebra_code_n.en (N : Nat) (ρ : Type) : List AV → Heap → (AV → Heap → Option ρ) → Option ρ
  | [.sptr [(0, 2), (1, 520)], .nils], [⟨false, .flat 2 (.ints .i64 gv0)⟩, ⟨false, .flat 520 (.ints .u8 gv1)⟩], K => (impl_Algebra_code_n N (fun d0 => K (.int .i64 (d0)) [⟨false, .flat 2 (.ints .i64 gv0)⟩, ⟨false, .flat 520 (.ints .u8 gv1)⟩]) gv0 gv1)
  | _, _, _ => none
theorem impl_Algebra_code_n.en_ok (N : Nat) (hE : EnvOk (E46 N) ents) (ρ : Type) (args : List AV) (sh : Heap) (K : AV → Heap → Option ρ) (r : ρ) (h : impl_Algebra_code_n.en N ρ args sh K = some r) : ∃ v sh', K v sh' = some r ∧ FnOk (E46 N).P 57 args sh v sh' := by
  unfold impl_Algebra_code_n.en at h
  split at h
  · exact fn_ok hE (kp := impl_Algebra_code_n.kp) (N := N) Try.func57 (c := impl_Algebra_code_n.bd) (by kernel_rfl) ((impl_Algebra_code_n.eq N _ _ _).trans h)
  · cases h
def E47 (N : Nat) : Env := (E46 N).add 57 (impl_Algebra_code_n.en N)
theorem E47_ok (N : Nat) : EnvOk (E47 N) ents := Env.add_ok (E46_ok N) (impl_Algebra_code_n.en_ok N (E46_ok N))
def impl_newSystem.kp : Keeps := ⟨[], [], []⟩
def impl_newSystem.bd : Code := bodyOf Try.f97
def impl_newSystem.fin {ρ : Type} (N : Nat) (K : AV → Heap → Option ρ) : XE → St → Option ρ := finK (E47 N) impl_newSystem.kp.fins Try.f97 [] K
theorem impl_newSystem.eq {ρ : Type} (N : Nat) (K : AV → Heap → Option ρ) (p0 : Int) (many1 : Int) :
    xbody (E47 N) ents impl_newSystem.kp N Try.f97 impl_newSystem.bd [.int .i64 (p0), .int .i64 (many1)] [] K = (impl_newSystem N (fun d0 d1 => K (.sptr [(0, 2), (1, 1), (2, 1), (3, 1)]) [⟨true, .flat 2 (.ints .i64 d0)⟩, ⟨true, .flat 1 (.ints .i64 d1)⟩, ⟨true, .avs [.nils]⟩, ⟨true, .avs [.nils]⟩]) p0 many1) := by kernel_rfl
def impl_newSystem.en (N : Nat) (ρ : Type) : List AV → Heap → (AV → Heap → Option ρ) → Option ρ
  | [.int .i64 (p0), .int .i64 (many1)], [], K => (impl_newSystem N (fun d0 d1 => K (.sptr [(0, 2), (1, 1), (2, 1), (3, 1)]) [⟨true, .flat 2 (.ints .i64 d0)⟩, ⟨true, .flat 1 (.ints .i64 d1)⟩, ⟨true, .avs [.nils]⟩, ⟨true, .avs [.nils]⟩]) p0 many1)
  | _, _, _ => none
theorem impl_newSystem.en_ok (N : Nat) (hE : EnvOk (E47 N) ents) (ρ : Type) (args : List AV) (sh : Heap) (K : AV → Heap → Option ρ) (r : ρ) (h : impl_newSystem.en N ρ args sh K = some r) : ∃ v sh', K v sh' = some r ∧ FnOk (E47 N).P 97 args sh v sh' := by
  unfold impl_newSystem.en at h
  split at h
  · exact fn_ok hE (kp := impl_newSystem.kp) (N := N) Try.func97 (c := impl_newSystem.bd) (by kernel_rfl) ((impl_newSystem.eq N _ _ _).trans h)
  · cases h
def E48 (N : Nat) : Env := (E47 N).add 97 (impl_newSystem.en N)
theorem E48_ok (N : Nat) : EnvOk (E48 N) ents := Env.add_ok (E47_ok N) (impl_newSystem.en_ok N (E47_ok N))
def impl_CentreOf_c1.kp : Keeps := ⟨[], [], []⟩
def impl_CentreOf_c1.bd : Code := bodyOf Try.f81
def impl_CentreOf_c1.fin {ρ : Type} (N : Nat) (K : AV → Heap → Option ρ) (gv2 : Nat → Int) (gv3 : Nat → Int) (gv4 : Nat → Int) : XE → St → Option ρ := finK (E48 N) impl_CentreOf_c1.kp.fins Try.f81 [⟨false, .flat 1 (.ints .i64 gv2)⟩, ⟨false, .flat 2 (.ints .i64 gv3)⟩, ⟨false, .flat 520 (.ints .u8 gv4)⟩] K
theorem impl_CentreOf_c1.eq {ρ : Type} (N : Nat) (K : AV → Heap → Option ρ) (form0 : Int) (c1 : Int) (gv2 : Nat → Int) (gv3 : Nat → Int) (gv4 : Nat → Int) :
    xbody (E48 N) ents impl_CentreOf_c1.kp N Try.f81 impl_CentreOf_c1.bd [.int .i64 (form0), .int .i64 (c1), .sptr [(0, 1)], .sptr [(1, 2), (2, 520)]] [⟨false, .flat 1 (.ints .i64 gv2)⟩, ⟨false, .flat 2 (.ints .i64 gv3)⟩, ⟨false, .flat 520 (.ints .u8 gv4)⟩] K = (impl_CentreOf_c1 N (fun d0 => K (.int .i64 (d0)) [⟨false, .flat 1 (.ints .i64 gv2)⟩, ⟨false, .flat 2 (.ints .i64 gv3)⟩, ⟨false, .flat 520 (.ints .u8 gv4)⟩]) form0 c1 gv2 gv3 gv4) := by kernel_rfl
def impl_CentreOf_c1.en (N : Nat) (ρ : Type) : List AV → Heap → (AV → Heap → Option ρ) → Option ρ
  | [.int .i64 (form0), .int .i64 (c1), .sptr [(0, 1)], .sptr [(1, 2), (2, 520)]], [⟨false, .flat 1 (.ints .i64 gv2)⟩, ⟨false, .flat 2 (.ints .i64 gv3)⟩, ⟨false, .flat 520 (.ints .u8 gv4)⟩], K => (impl_CentreOf_c1 N (fun d0 => K (.int .i64 (d0)) [⟨false, .flat 1 (.ints .i64 gv2)⟩, ⟨false, .flat 2 (.ints .i64 gv3)⟩, ⟨false, .flat 520 (.ints .u8 gv4)⟩]) form0 c1 gv2 gv3 gv4)
  | _, _, _ => none
theorem impl_CentreOf_c1.en_ok (N : Nat) (hE : EnvOk (E48 N) ents) (ρ : Type) (args : List AV) (sh : Heap) (K : AV → Heap → Option ρ) (r : ρ) (h : impl_CentreOf_c1.en N ρ args sh K = some r) : ∃ v sh', K v sh' = some r ∧ FnOk (E48 N).P 81 args sh v sh' := by
  unfold impl_CentreOf_c1.en at h
  split at h
  · exact fn_ok hE (kp := impl_CentreOf_c1.kp) (N := N) Try.func81 (c := impl_CentreOf_c1.bd) (by kernel_rfl) ((impl_CentreOf_c1.eq N _ _ _ _ _ _).trans h)
  · cases h
def E49 (N : Nat) : Env := (E48 N).add 81 (impl_CentreOf_c1.en N)
theorem E49_ok (N : Nat) : EnvOk (E49 N) ents := Env.add_ok (E48_ok N) (impl_CentreOf_c1.en_ok N (E48_ok N))
def impl_system_add_s_v2.kp : Keeps := ⟨[(0, [0, 2, 6, 15, 16, 17], [], [])], [(0, [0, 2, 6], [], [])], []⟩
def impl_system_add_s_v2.bd : Code := bodyOf Try.f98
def impl_system_add_s_v2.fin {ρ : Type} (N : Nat) (K : AV → Heap → Option ρ) (gv3 : Nat → Int) (gv4 : Nat → Int) (gv5 : Nat) (gv6 : Nat) (gv7 : Nat → Int) (gv8 : Nat) (gv9 : Nat → Nat) (gv10 : Nat → Nat) (gv11 : Nat → Int) : XE → St → Option ρ := finK (E49 N) impl_system_add_s_v2.kp.fins Try.f98 [⟨false, .flat 2 (.ints .i64 gv3)⟩, ⟨false, .flat 1 (.ints .i64 gv4)⟩, ⟨true, .avs [.slice false 5 0 gv5 .whole 1]⟩, ⟨false, .avs [.nils]⟩, ⟨false, .flat gv6 (.ints .i64 gv7)⟩, ⟨true, .hdr 6 0 gv8 gv9 gv10 none⟩, ⟨true, .flat 0 (.ints .u8 gv11)⟩] K
def impl_system_add_s_v2.k0 {ρ : Type} (N : Nat) (K : AV → Heap → Option ρ) (gv3 : Nat → Int) (gv4 : Nat → Int) (gv5 : Nat) (gv6 : Nat) (gv7 : Nat → Int) (gv8 : Nat) (gv9 : Nat → Nat) (gv10 : Nat → Nat) (gv11 : Nat → Int) : XE → St → Option ρ := (blockK impl_system_add_s_v2.kp 7 0 (seqK (xcode (E49 N) ents impl_system_add_s_v2.kp 7 N (cB (cB impl_system_add_s_v2.bd)) 0) (impl_system_add_s_v2.fin N K gv3 gv4 gv5 gv6 gv7 gv8 gv9 gv10 gv11)))
theorem impl_system_add_s_v2.k0_mix {ρ : Type} (N : Nat) (K : AV → Heap → Option ρ) (gv3 : Nat → Int) (gv4 : Nat → Int) (gv5 : Nat) (gv6 : Nat) (gv7 : Nat → Int) (gv8 : Nat) (gv9 : Nat → Nat) (gv10 : Nat → Nat) (gv11 : Nat → Int) : mixK (impl_system_add_s_v2.fin N K gv3 gv4 gv5 gv6 gv7 gv8 gv9 gv10 gv11 .ret) (impl_system_add_s_v2.k0 N K gv3 gv4 gv5 gv6 gv7 gv8 gv9 gv10 gv11) = (impl_system_add_s_v2.k0 N K gv3 gv4 gv5 gv6 gv7 gv8 gv9 gv10 gv11) := by
  funext e s; cases e <;> kernel_rfl
def impl_system_add_s_v2.st0 (coefficients0 : Nat) (coefficients1 : Nat) (value2 : Int) (gv3 : Nat → Int) (gv4 : Nat → Int) (gv5 : Nat) (gv6 : Nat) (gv7 : Nat → Int) (gv8 : Nat) (gv9 : Nat → Nat) (gv10 : Nat → Nat) (gv11 : Nat → Int) (x12 : Int) (gv13 : Nat → Int) : St := ⟨sl 54 [(0, .sptr [(0, 2), (1, 1), (2, 1), (3, 1)]), (2, .int .i64 (value2)), (6, .slice true 7 0 ((IntKind.i64.wrap ((gv4 0) + 1))).toNat (.exact ((IntKind.i64.wrap ((gv4 0) + 1))).toNat) 1), (15, .slice true 4 0 coefficients0 (.exact coefficients1) 1), (16, .int .i64 ((coefficients0 : Int))), (17, .int .i64 (x12))], [⟨false, .flat 2 (.ints .i64 gv3)⟩, ⟨false, .flat 1 (.ints .i64 gv4)⟩, ⟨true, .avs [.slice false 5 0 gv5 .whole 1]⟩, ⟨false, .avs [.nils]⟩, ⟨false, .flat gv6 (.ints .i64 gv7)⟩, ⟨true, .hdr 6 0 gv8 gv9 gv10 none⟩, ⟨true, .flat 0 (.ints .u8 gv11)⟩, ⟨true, .flat (((IntKind.i64.wrap ((gv4 0) + 1))).toNat * 1) (.ints .u8 gv13)⟩]⟩
def impl_system_add_s_v2.sx0_0 (value2 : Int) (gv3 : Nat → Int) (gv4 : Nat → Int) (gv5 : Nat) (gv6 : Nat) (gv7 : Nat → Int) (gv8 : Nat) (gv9 : Nat → Nat) (gv10 : Nat → Nat) (gv11 : Nat → Int) (ov15 : Nat → Int) : St := ⟨sl 54 [(0, .sptr [(0, 2), (1, 1), (2, 1), (3, 1)]), (2, .int .i64 (value2)), (6, .slice true 7 0 ((IntKind.i64.wrap ((gv4 0) + 1))).toNat (.exact ((IntKind.i64.wrap ((gv4 0) + 1))).toNat) 1)], [⟨false, .flat 2 (.ints .i64 gv3)⟩, ⟨false, .flat 1 (.ints .i64 gv4)⟩, ⟨true, .avs [.slice false 5 0 gv5 .whole 1]⟩, ⟨false, .avs [.nils]⟩, ⟨false, .flat gv6 (.ints .i64 gv7)⟩, ⟨true, .hdr 6 0 gv8 gv9 gv10 none⟩, ⟨true, .flat 0 (.ints .u8 gv11)⟩, ⟨true, .flat (((IntKind.i64.wrap ((gv4 0) + 1))).toNat * 1) (.ints .u8 ov15)⟩]⟩
theorem impl_system_add_s_v2.b0_gen {ρ : Type} (N : Nat) (K : AV → Heap → Option ρ) (L0 : St → Option ρ) (kv : XE → St → Option ρ) (coefficients0 : Nat) (coefficients1 : Nat) (value2 : Int) (gv3 : Nat → Int) (gv4 : Nat → Int) (gv5 : Nat) (gv6 : Nat) (gv7 : Nat → Int) (gv8 : Nat) (gv9 : Nat → Nat) (gv10 : Nat → Nat) (gv11 : Nat → Int) (x12 : Int) (gv13 : Nat → Int) :
    xcode (E49 N) ents impl_system_add_s_v2.kp 7 N (cL (cK (cB (cA (cB impl_system_add_s_v2.bd))))) 0 (impl_system_add_s_v2.st0 coefficients0 coefficients1 value2 gv3 gv4 gv5 gv6 gv7 gv8 gv9 gv10 gv11 x12 gv13) (roundK impl_system_add_s_v2.kp 7 0 L0 (mixK (impl_system_add_s_v2.fin N K gv3 gv4 gv5 gv6 gv7 gv8 gv9 gv10 gv11 .ret) kv)) = (impl_system_add_s_v2.b0 N (fun d0 d1 d2 d3 d4 => K (.tup []) [⟨false, .flat 2 (.ints .i64 gv3)⟩, ⟨false, .flat 1 (.ints .i64 gv4)⟩, ⟨true, .avs [.slice false 7 0 d0 .whole 1]⟩, ⟨false, .avs [.nils]⟩, ⟨false, .flat gv6 (.ints .i64 gv7)⟩, ⟨true, .dead⟩, ⟨true, .dead⟩, ⟨true, .hdr 8 0 d1 d2 d3 none⟩, ⟨true, .flat 0 (.ints .u8 d4)⟩]) (fun x12 gv13 => L0 (impl_system_add_s_v2.st0 coefficients0 coefficients1 value2 gv3 gv4 gv5 gv6 gv7 gv8 gv9 gv10 gv11 x12 gv13)) (fun ov15 => kv (.exit 0) (impl_system_add_s_v2.sx0_0 value2 gv3 gv4 gv5 gv6 gv7 gv8 gv9 gv10 gv11 ov15)) coefficients0 gv3 gv4 gv7 x12 gv13) := by kernel_rfl
theorem impl_system_add_s_v2.b0_eq {ρ : Type} (N : Nat) (K : AV → Heap → Option ρ) (L0 : St → Option ρ) (coefficients0 : Nat) (coefficients1 : Nat) (value2 : Int) (gv3 : Nat → Int) (gv4 : Nat → Int) (gv5 : Nat) (gv6 : Nat) (gv7 : Nat → Int) (gv8 : Nat) (gv9 : Nat → Nat) (gv10 : Nat → Nat) (gv11 : Nat → Int) (x12 : Int) (gv13 : Nat → Int) :
    xcode (E49 N) ents impl_system_add_s_v2.kp 7 N (cL (cK (cB (cA (cB impl_system_add_s_v2.bd))))) 0 (impl_system_add_s_v2.st0 coefficients0 coefficients1 value2 gv3 gv4 gv5 gv6 gv7 gv8 gv9 gv10 gv11 x12 gv13) (roundK impl_system_add_s_v2.kp 7 0 L0 (impl_system_add_s_v2.k0 N K gv3 gv4 gv5 gv6 gv7 gv8 gv9 gv10 gv11)) = (impl_system_add_s_v2.b0 N (fun d0 d1 d2 d3 d4 => K (.tup []) [⟨false, .flat 2 (.ints .i64 gv3)⟩, ⟨false, .flat 1 (.ints .i64 gv4)⟩, ⟨true, .avs [.slice false 7 0 d0 .whole 1]⟩, ⟨false, .avs [.nils]⟩, ⟨false, .flat gv6 (.ints .i64 gv7)⟩, ⟨true, .dead⟩, ⟨true, .dead⟩, ⟨true, .hdr 8 0 d1 d2 d3 none⟩, ⟨true, .flat 0 (.ints .u8 d4)⟩]) (fun x12 gv13 => L0 (impl_system_add_s_v2.st0 coefficients0 coefficients1 value2 gv3 gv4 gv5 gv6 gv7 gv8 gv9 gv10 gv11 x12 gv13)) (fun ov15 => (impl_system_add_s_v2.k0 N K gv3 gv4 gv5 gv6 gv7 gv8 gv9 gv10 gv11) (.exit 0) (impl_system_add_s_v2.sx0_0 value2 gv3 gv4 gv5 gv6 gv7 gv8 gv9 gv10 gv11 ov15)) coefficients0 gv3 gv4 gv7 x12 gv13) := by
  have h := impl_system_add_s_v2.b0_gen N K L0 (impl_system_add_s_v2.k0 N K gv3 gv4 gv5 gv6 gv7 gv8 gv9 gv10 gv11) coefficients0 coefficients1 value2 gv3 gv4 gv5 gv6 gv7 gv8 gv9 gv10 gv11 x12 gv13
  rw [impl_system_add_s_v2.k0_mix] at h
  exact h
theorem impl_system_add_s_v2.a0_0_eq {ρ : Type} (N : Nat) (K : AV → Heap → Option ρ) (value2 : Int) (gv3 : Nat → Int) (gv4 : Nat → Int) (gv5 : Nat) (gv6 : Nat) (gv7 : Nat → Int) (gv8 : Nat) (gv9 : Nat → Nat) (gv10 : Nat → Nat) (gv11 : Nat → Int) (ov15 : Nat → Int) :
    (impl_system_add_s_v2.k0 N K gv3 gv4 gv5 gv6 gv7 gv8 gv9 gv10 gv11) (.exit 0) (impl_system_add_s_v2.sx0_0 value2 gv3 gv4 gv5 gv6 gv7 gv8 gv9 gv10 gv11 ov15) = (impl_system_add_s_v2.a0_0 N (fun d0 d1 d2 d3 d4 => K (.tup []) [⟨false, .flat 2 (.ints .i64 gv3)⟩, ⟨false, .flat 1 (.ints .i64 gv4)⟩, ⟨true, .avs [.slice false 7 0 d0 .whole 1]⟩, ⟨false, .avs [.nils]⟩, ⟨false, .flat gv6 (.ints .i64 gv7)⟩, ⟨true, .dead⟩, ⟨true, .dead⟩, ⟨true, .hdr 8 0 d1 d2 d3 none⟩, ⟨true, .flat 0 (.ints .u8 d4)⟩]) value2 gv3 gv4 gv5 gv8 gv9 gv10 gv11 ov15) := by kernel_rfl
theorem impl_system_add_s_v2.l0_eq {ρ : Type} (N : Nat) (K : AV → Heap → Option ρ) (coefficients0 : Nat) (coefficients1 : Nat) (value2 : Int) (gv3 : Nat → Int) (gv4 : Nat → Int) (gv5 : Nat) (gv6 : Nat) (gv7 : Nat → Int) (gv8 : Nat) (gv9 : Nat → Nat) (gv10 : Nat → Nat) (gv11 : Nat → Int) :
    ∀ (m : Nat) (x12 : Int) (gv13 : Nat → Int), xloop (xcode (E49 N) ents impl_system_add_s_v2.kp 7 N (cL (cK (cB (cA (cB impl_system_add_s_v2.bd))))) 0) impl_system_add_s_v2.kp 7 0 m (impl_system_add_s_v2.st0 coefficients0 coefficients1 value2 gv3 gv4 gv5 gv6 gv7 gv8 gv9 gv10 gv11 x12 gv13) (impl_system_add_s_v2.k0 N K gv3 gv4 gv5 gv6 gv7 gv8 gv9 gv10 gv11) = (impl_system_add_s_v2.l0 N (fun d0 d1 d2 d3 d4 => K (.tup []) [⟨false, .flat 2 (.ints .i64 gv3)⟩, ⟨false, .flat 1 (.ints .i64 gv4)⟩, ⟨true, .avs [.slice false 7 0 d0 .whole 1]⟩, ⟨false, .avs [.nils]⟩, ⟨false, .flat gv6 (.ints .i64 gv7)⟩, ⟨true, .dead⟩, ⟨true, .dead⟩, ⟨true, .hdr 8 0 d1 d2 d3 none⟩, ⟨true, .flat 0 (.ints .u8 d4)⟩]) coefficients0 gv3 gv4 gv7 (fun ov15 => (impl_system_add_s_v2.k0 N K gv3 gv4 gv5 gv6 gv7 gv8 gv9 gv10 gv11) (.exit 0) (impl_system_add_s_v2.sx0_0 value2 gv3 gv4 gv5 gv6 gv7 gv8 gv9 gv10 gv11 ov15)) m x12 gv13) := by
  intro m
  induction m with
  | zero => intros; rfl
  | succ m ih =>
    intro x12 gv13
    refine (impl_system_add_s_v2.b0_eq N K (fun s => xloop (xcode (E49 N) ents impl_system_add_s_v2.kp 7 N (cL (cK (cB (cA (cB impl_system_add_s_v2.bd))))) 0) impl_system_add_s_v2.kp 7 0 m s (impl_system_add_s_v2.k0 N K gv3 gv4 gv5 gv6 gv7 gv8 gv9 gv10 gv11)) coefficients0 coefficients1 value2 gv3 gv4 gv5 gv6 gv7 gv8 gv9 gv10 gv11 x12 gv13).trans ?_
    simp only [ih]
    kernel_rfl
theorem impl_system_add_s_v2.s_eq {ρ : Type} (N : Nat) (K : AV → Heap → Option ρ) (coefficients0 : Nat) (coefficients1 : Nat) (value2 : Int) (gv3 : Nat → Int) (gv4 : Nat → Int) (gv5 : Nat) (gv6 : Nat) (gv7 : Nat → Int) (gv8 : Nat) (gv9 : Nat → Nat) (gv10 : Nat → Nat) (gv11 : Nat → Int) :
    xbody (E49 N) ents impl_system_add_s_v2.kp N Try.f98 impl_system_add_s_v2.bd [.sptr [(0, 2), (1, 1), (2, 1), (3, 1)], .slice true 4 0 coefficients0 (.exact coefficients1) 1, .int .i64 (value2)] [⟨false, .flat 2 (.ints .i64 gv3)⟩, ⟨false, .flat 1 (.ints .i64 gv4)⟩, ⟨true, .avs [.slice false 5 0 gv5 .whole 1]⟩, ⟨false, .avs [.nils]⟩, ⟨false, .flat gv6 (.ints .i64 gv7)⟩, ⟨true, .hdr 6 0 gv8 gv9 gv10 none⟩, ⟨true, .flat 0 (.ints .u8 gv11)⟩] K = (impl_system_add_s_v2.s N (fun d0 d1 d2 d3 d4 => K (.tup []) [⟨false, .flat 2 (.ints .i64 gv3)⟩, ⟨false, .flat 1 (.ints .i64 gv4)⟩, ⟨true, .avs [.slice false 7 0 d0 .whole 1]⟩, ⟨false, .avs [.nils]⟩, ⟨false, .flat gv6 (.ints .i64 gv7)⟩, ⟨true, .dead⟩, ⟨true, .dead⟩, ⟨true, .hdr 8 0 d1 d2 d3 none⟩, ⟨true, .flat 0 (.ints .u8 d4)⟩]) (fun x12 gv13 => xloop (xcode (E49 N) ents impl_system_add_s_v2.kp 7 N (cL (cK (cB (cA (cB impl_system_add_s_v2.bd))))) 0) impl_system_add_s_v2.kp 7 0 N (impl_system_add_s_v2.st0 coefficients0 coefficients1 value2 gv3 gv4 gv5 gv6 gv7 gv8 gv9 gv10 gv11 x12 gv13) (impl_system_add_s_v2.k0 N K gv3 gv4 gv5 gv6 gv7 gv8 gv9 gv10 gv11)) gv4) := by kernel_rfl
theorem impl_system_add_s_v2.eq {ρ : Type} (N : Nat) (K : AV → Heap → Option ρ) (coefficients0 : Nat) (coefficients1 : Nat) (value2 : Int) (gv3 : Nat → Int) (gv4 : Nat → Int) (gv5 : Nat) (gv6 : Nat) (gv7 : Nat → Int) (gv8 : Nat) (gv9 : Nat → Nat) (gv10 : Nat → Nat) (gv11 : Nat → Int) :
    xbody (E49 N) ents impl_system_add_s_v2.kp N Try.f98 impl_system_add_s_v2.bd [.sptr [(0, 2), (1, 1), (2, 1), (3, 1)], .slice true 4 0 coefficients0 (.exact coefficients1) 1, .int .i64 (value2)] [⟨false, .flat 2 (.ints .i64 gv3)⟩, ⟨false, .flat 1 (.ints .i64 gv4)⟩, ⟨true, .avs [.slice false 5 0 gv5 .whole 1]⟩, ⟨false, .avs [.nils]⟩, ⟨false, .flat gv6 (.ints .i64 gv7)⟩, ⟨true, .hdr 6 0 gv8 gv9 gv10 none⟩, ⟨true, .flat 0 (.ints .u8 gv11)⟩] K = (impl_system_add_s_v2 N (fun d0 d1 d2 d3 d4 => K (.tup []) [⟨false, .flat 2 (.ints .i64 gv3)⟩, ⟨false, .flat 1 (.ints .i64 gv4)⟩, ⟨true, .avs [.slice false 7 0 d0 .whole 1]⟩, ⟨false, .avs [.nils]⟩, ⟨false, .flat gv6 (.ints .i64 gv7)⟩, ⟨true, .dead⟩, ⟨true, .dead⟩, ⟨true, .hdr 8 0 d1 d2 d3 none⟩, ⟨true, .flat 0 (.ints .u8 d4)⟩]) coefficients0 coefficients1 value2 gv3 gv4 gv5 gv6 gv7 gv8 gv9 gv10 gv11) := by
  refine (impl_system_add_s_v2.s_eq N K coefficients0 coefficients1 value2 gv3 gv4 gv5 gv6 gv7 gv8 gv9 gv10 gv11).trans ?_
  simp only [impl_system_add_s_v2.l0_eq, impl_system_add_s_v2.a0_0_eq]
  kernel_rfl
def impl_system_add_s_v2.en (N : Nat) (ρ : Type) : List AV → Heap → (AV → Heap → Option ρ) → Option ρ
  | [.sptr [(0, 2), (1, 1), (2, 1), (3, 1)], .slice true 4 0 coefficients0 (.exact coefficients1) 1, .int .i64 (value2)], [⟨false, .flat 2 (.ints .i64 gv3)⟩, ⟨false, .flat 1 (.ints .i64 gv4)⟩, ⟨true, .avs [.slice false 5 0 gv5 .whole 1]⟩, ⟨false, .avs [.nils]⟩, ⟨false, .flat gv6 (.ints .i64 gv7)⟩, ⟨true, .hdr 6 0 gv8 gv9 gv10 none⟩, ⟨true, .flat 0 (.ints .u8 gv11)⟩], K => (impl_system_add_s_v2 N (fun d0 d1 d2 d3 d4 => K (.tup []) [⟨false, .flat 2 (.ints .i64 gv3)⟩, ⟨false, .flat 1 (.ints .i64 gv4)⟩, ⟨true, .avs [.slice false 7 0 d0 .whole 1]⟩, ⟨false, .avs [.nils]⟩, ⟨false, .flat gv6 (.ints .i64 gv7)⟩, ⟨true, .dead⟩, ⟨true, .dead⟩, ⟨true, .hdr 8 0 d1 d2 d3 none⟩, ⟨true, .flat 0 (.ints .u8 d4)⟩]) coefficients0 coefficients1 value2 gv3 gv4 gv5 gv6 gv7 gv8 gv9 gv10 gv11)
  | _, _, _ => none
theorem impl_system_add_s_v2.en_ok (N : Nat) (hE : EnvOk (E49 N) ents) (ρ : Type) (args : List AV) (sh : Heap) (K : AV → Heap → Option ρ) (r : ρ) (h : impl_system_add_s_v2.en N ρ args sh K = some r) : ∃ v sh', K v sh' = some r ∧ FnOk (E49 N).P 98 args sh v sh' := by
  unfold impl_system_add_s_v2.en at h
  split at h
  · exact fn_ok hE (kp := impl_system_add_s_v2.kp) (N := N) Try.func98 (c := impl_system_add_s_v2.bd) (by kernel_rfl) ((impl_system_add_s_v2.eq N _ _ _ _ _ _ _ _ _ _ _ _ _).trans h)
  · cases h
def E50 (N : Nat) : Env := (E49 N).add 98 (impl_system_add_s_v2.en N)
theorem E50_ok (N : Nat) : EnvOk (E50 N) ents := Env.add_ok (E49_ok N) (impl_system_add_s_v2.en_ok N (E49_ok N))
def impl_system_solve_c1_su.kp : Keeps := ⟨[], [], []⟩
def impl_system_solve_c1_su.bd : Code := bodyOf Try.f111
def impl_system_solve_c1_su.fin {ρ : Type} (N : Nat) (K : AV → Heap → Option ρ) (gv1 : Nat) (gv2 : Nat → Int) (gv3 : Nat → Int) : XE → St → Option ρ := finK (E50 N) impl_system_solve_c1_su.kp.fins Try.f111 [⟨false, .flat gv1 (.ints .u8 gv2)⟩, ⟨false, .flat 1 (.ints .i64 gv3)⟩] K
theorem impl_system_solve_c1_su.eq {ρ : Type} (N : Nat) (K : AV → Heap → Option ρ) (rv0 : Nat) (gv1 : Nat) (gv2 : Nat → Int) (gv3 : Nat → Int) :
    xbody (E50 N) ents impl_system_solve_c1_su.kp N Try.f111 impl_system_solve_c1_su.bd [.slice false 0 0 rv0 .unk 1, .sptr [(1, 1)]] [⟨false, .flat gv1 (.ints .u8 gv2)⟩, ⟨false, .flat 1 (.ints .i64 gv3)⟩] K = (impl_system_solve_c1_su N (fun d0 => K (.bool (d0)) [⟨false, .flat gv1 (.ints .u8 gv2)⟩, ⟨false, .flat 1 (.ints .i64 gv3)⟩]) rv0 gv1 gv2 gv3) := by kernel_rfl
def impl_system_solve_c1_su.en (N : Nat) (ρ : Type) : List AV → Heap → (AV → Heap → Option ρ) → Option ρ
  | [.slice false 0 0 rv0 .unk 1, .sptr [(1, 1)]], [⟨false, .flat gv1 (.ints .u8 gv2)⟩, ⟨false, .flat 1 (.ints .i64 gv3)⟩], K => (impl_system_solve_c1_su N (fun d0 => K (.bool (d0)) [⟨false, .flat gv1 (.ints .u8 gv2)⟩, ⟨false, .flat 1 (.ints .i64 gv3)⟩]) rv0 gv1 gv2 gv3)
  | _, _, _ => none
theorem impl_system_solve_c1_su.en_ok (N : Nat) (hE : EnvOk (E50 N) ents) (ρ : Type) (args : List AV) (sh : Heap) (K : AV → Heap → Option ρ) (r : ρ) (h : impl_system_solve_c1_su.en N ρ args sh K = some r) : ∃ v sh', K v sh' = some r ∧ FnOk (E50 N).P 111 args sh v sh' := by
  unfold impl_system_solve_c1_su.en at h
  split at h
  · exact fn_ok hE (kp := impl_system_solve_c1_su.kp) (N := N) Try.func111 (c := impl_system_solve_c1_su.bd) (by kernel_rfl) ((impl_system_solve_c1_su.eq N _ _ _ _ _).trans h)
  · cases h
def E51 (N : Nat) : Env := (E50 N).add 111 (impl_system_solve_c1_su.en N)
theorem E51_ok (N : Nat) : EnvOk (E51 N) ents := Env.add_ok (E50_ok N) (impl_system_solve_c1_su.en_ok N (E50_ok N))
def impl_system_solve_c2_su.kp : Keeps := ⟨[], [], []⟩
def impl_system_solve_c2_su.bd : Code := bodyOf Try.f114
def impl_system_solve_c2_su.fin {ρ : Type} (N : Nat) (K : AV → Heap → Option ρ) (gv1 : Nat) (gv2 : Nat → Int) (gv3 : Nat → Int) (gv4 : Nat → Int) (gv5 : Nat) (gv6 : Nat) (gv7 : Nat) (gv8 : Nat) (gv9 : Nat → Nat) (gv10 : Nat → Nat) (gv11 : Nat) (gv12 : Nat → Int) (gv13 : Nat → Int) : XE → St → Option ρ := finK (E51 N) impl_system_solve_c2_su.kp.fins Try.f114 [⟨false, .flat gv1 (.ints .u8 gv2)⟩, ⟨false, .avs [.sptr [(2, 2), (3, 1), (4, 1), (5, 1)]]⟩, ⟨false, .flat 2 (.ints .i64 gv3)⟩, ⟨false, .flat 1 (.ints .i64 gv4)⟩, ⟨false, .avs [.slice false 6 0 gv5 .unk 1]⟩, ⟨false, .avs [.slice false 7 0 gv6 .unk 1]⟩, ⟨false, .hdr 8 gv7 gv8 gv9 gv10 none⟩, ⟨false, .flat gv11 (.ints .i64 gv12)⟩, ⟨false, .flat 0 (.ints .u8 gv13)⟩] K
theorem impl_system_solve_c2_su.eq {ρ : Type} (N : Nat) (K : AV → Heap → Option ρ) (rv0 : Nat) (gv1 : Nat) (gv2 : Nat → Int) (gv3 : Nat → Int) (gv4 : Nat → Int) (gv5 : Nat) (gv6 : Nat) (gv7 : Nat) (gv8 : Nat) (gv9 : Nat → Nat) (gv10 : Nat → Nat) (gv11 : Nat) (gv12 : Nat → Int) (gv13 : Nat → Int) :
    xbody (E51 N) ents impl_system_solve_c2_su.kp N Try.f114 impl_system_solve_c2_su.bd [.slice false 0 0 rv0 .unk 1, .sptr [(1, 1)]] [⟨false, .flat gv1 (.ints .u8 gv2)⟩, ⟨false, .avs [.sptr [(2, 2), (3, 1), (4, 1), (5, 1)]]⟩, ⟨false, .flat 2 (.ints .i64 gv3)⟩, ⟨false, .flat 1 (.ints .i64 gv4)⟩, ⟨false, .avs [.slice false 6 0 gv5 .unk 1]⟩, ⟨false, .avs [.slice false 7 0 gv6 .unk 1]⟩, ⟨false, .hdr 8 gv7 gv8 gv9 gv10 none⟩, ⟨false, .flat gv11 (.ints .i64 gv12)⟩, ⟨false, .flat 0 (.ints .u8 gv13)⟩] K = (impl_system_solve_c2_su N (fun d0 => K (.bool (d0)) [⟨false, .flat gv1 (.ints .u8 gv2)⟩, ⟨false, .avs [.sptr [(2, 2), (3, 1), (4, 1), (5, 1)]]⟩, ⟨false, .flat 2 (.ints .i64 gv3)⟩, ⟨false, .flat 1 (.ints .i64 gv4)⟩, ⟨false, .avs [.slice false 6 0 gv5 .unk 1]⟩, ⟨false, .avs [.slice false 7 0 gv6 .unk 1]⟩, ⟨false, .hdr 8 gv7 gv8 gv9 gv10 none⟩, ⟨false, .flat gv11 (.ints .i64 gv12)⟩, ⟨false, .flat 0 (.ints .u8 gv13)⟩]) rv0 gv1 gv2 gv3 gv4 gv5 gv6 gv7 gv8 gv9 gv10 gv11 gv12 gv13) := by kernel_rfl
def impl_system_solve_c2_su.en (N : Nat) (ρ : Type) : List AV → Heap → (AV → Heap → Option ρ) → Option ρ
  | [.slice false 0 0 rv0 .unk 1, .sptr [(1, 1)]], [⟨false, .flat gv1 (.ints .u8 gv2)⟩, ⟨false, .avs [.sptr [(2, 2), (3, 1), (4, 1), (5, 1)]]⟩, ⟨false, .flat 2 (.ints .i64 gv3)⟩, ⟨false, .flat 1 (.ints .i64 gv4)⟩, ⟨false, .avs [.slice false 6 0 gv5 .unk 1]⟩, ⟨false, .avs [.slice false 7 0 gv6 .unk 1]⟩, ⟨false, .hdr 8 gv7 gv8 gv9 gv10 none⟩, ⟨false, .flat gv11 (.ints .i64 gv12)⟩, ⟨false, .flat 0 (.ints .u8 gv13)⟩], K => (impl_system_solve_c2_su N (fun d0 => K (.bool (d0)) [⟨false, .flat gv1 (.ints .u8 gv2)⟩, ⟨false, .avs [.sptr [(2, 2), (3, 1), (4, 1), (5, 1)]]⟩, ⟨false, .flat 2 (.ints .i64 gv3)⟩, ⟨false, .flat 1 (.ints .i64 gv4)⟩, ⟨false, .avs [.slice false 6 0 gv5 .unk 1]⟩, ⟨false, .avs [.slice false 7 0 gv6 .unk 1]⟩, ⟨false, .hdr 8 gv7 gv8 gv9 gv10 none⟩, ⟨false, .flat gv11 (.ints .i64 gv12)⟩, ⟨false, .flat 0 (.ints .u8 gv13)⟩]) rv0 gv1 gv2 gv3 gv4 gv5 gv6 gv7 gv8 gv9 gv10 gv11 gv12 gv13)
  | _, _, _ => none
theorem impl_system_solve_c2_su.en_ok (N : Nat) (hE : EnvOk (E51 N) ents) (ρ : Type) (args : List AV) (sh : Heap) (K : AV → Heap → Option ρ) (r : ρ) (h : impl_system_solve_c2_su.en N ρ args sh K = some r) : ∃ v sh', K v sh' = some r ∧ FnOk (E51 N).P 114 args sh v sh' := by
  unfold impl_system_solve_c2_su.en at h
  split at h
  · exact fn_ok hE (kp := impl_system_solve_c2_su.kp) (N := N) Try.func114 (c := impl_system_solve_c2_su.bd) (by kernel_rfl) ((impl_system_solve_c2_su.eq N _ _ _ _ _ _ _ _ _ _ _ _ _ _ _).trans h)
  · cases h
def E52 (N : Nat) : Env := (E51 N).add 114 (impl_system_solve_c2_su.en N)
theorem E52_ok (N : Nat) : EnvOk (E52 N) ents := Env.add_ok (E51_ok N) (impl_system_solve_c2_su.en_ok N (E51_ok N))
def slices_IndexFunc_suhf.kp : Keeps := ⟨[(0, [0, 1, 7, 8], [], [])], [(0, [], [], [])], []⟩
def slices_IndexFunc_suhf.bd : Code := bodyOf Try.f110
def slices_IndexFunc_suhf.fin {ρ : Type} (N : Nat) (K : AV → Heap → Option ρ) (gv1 : Nat) (gv2 : Nat) (gv3 : Nat → Nat) (gv4 : Nat → Nat) (gv5 : Nat → Int) (gv6 : Nat → Int) : XE → St → Option ρ := finK (E52 N) slices_IndexFunc_suhf.kp.fins Try.f110 [⟨false, .hdr 2 gv1 gv2 gv3 gv4 none⟩, ⟨false, .flat 1 (.ints .i64 gv5)⟩, ⟨false, .flat 0 (.ints .u8 gv6)⟩] K
def slices_IndexFunc_suhf.k0 {ρ : Type} (N : Nat) (K : AV → Heap → Option ρ) (gv1 : Nat) (gv2 : Nat) (gv3 : Nat → Nat) (gv4 : Nat → Nat) (gv5 : Nat → Int) (gv6 : Nat → Int) : XE → St → Option ρ := (blockK slices_IndexFunc_suhf.kp 3 0 (seqK (xcode (E52 N) ents slices_IndexFunc_suhf.kp 3 N (cB (cB slices_IndexFunc_suhf.bd)) 0) (slices_IndexFunc_suhf.fin N K gv1 gv2 gv3 gv4 gv5 gv6)))
theorem slices_IndexFunc_suhf.k0_mix {ρ : Type} (N : Nat) (K : AV → Heap → Option ρ) (gv1 : Nat) (gv2 : Nat) (gv3 : Nat → Nat) (gv4 : Nat → Nat) (gv5 : Nat → Int) (gv6 : Nat → Int) : mixK (slices_IndexFunc_suhf.fin N K gv1 gv2 gv3 gv4 gv5 gv6 .ret) (slices_IndexFunc_suhf.k0 N K gv1 gv2 gv3 gv4 gv5 gv6) = (slices_IndexFunc_suhf.k0 N K gv1 gv2 gv3 gv4 gv5 gv6) := by
  funext e s; cases e <;> kernel_rfl
def slices_IndexFunc_suhf.st0 (s0 : Nat) (gv1 : Nat) (gv2 : Nat) (gv3 : Nat → Nat) (gv4 : Nat → Nat) (gv5 : Nat → Int) (gv6 : Nat → Int) (x7 : Int) : St := ⟨sl 19 [(0, .slice false 0 0 s0 .unk 1), (1, .fn 111 0 [[(1, 1)]]), (7, .int .i64 ((s0 : Int))), (8, .int .i64 (x7))], [⟨false, .hdr 2 gv1 gv2 gv3 gv4 none⟩, ⟨false, .flat 1 (.ints .i64 gv5)⟩, ⟨false, .flat 0 (.ints .u8 gv6)⟩]⟩
def slices_IndexFunc_suhf.sx0_0 (gv1 : Nat) (gv2 : Nat) (gv3 : Nat → Nat) (gv4 : Nat → Nat) (gv5 : Nat → Int) (gv6 : Nat → Int) : St := ⟨sl 19 [], [⟨false, .hdr 2 gv1 gv2 gv3 gv4 none⟩, ⟨false, .flat 1 (.ints .i64 gv5)⟩, ⟨false, .flat 0 (.ints .u8 gv6)⟩]⟩
theorem slices_IndexFunc_suhf.b0_gen {ρ : Type} (N : Nat) (K : AV → Heap → Option ρ) (L0 : St → Option ρ) (kv : XE → St → Option ρ) (s0 : Nat) (gv1 : Nat) (gv2 : Nat) (gv3 : Nat → Nat) (gv4 : Nat → Nat) (gv5 : Nat → Int) (gv6 : Nat → Int) (x7 : Int) :
    xcode (E52 N) ents slices_IndexFunc_suhf.kp 3 N (cL (cK (cB (cA (cB slices_IndexFunc_suhf.bd))))) 0 (slices_IndexFunc_suhf.st0 s0 gv1 gv2 gv3 gv4 gv5 gv6 x7) (roundK slices_IndexFunc_suhf.kp 3 0 L0 (mixK (slices_IndexFunc_suhf.fin N K gv1 gv2 gv3 gv4 gv5 gv6 .ret) kv)) = (slices_IndexFunc_suhf.b0 N (fun d0 => K (.int .i64 (d0)) [⟨false, .hdr 2 gv1 gv2 gv3 gv4 none⟩, ⟨false, .flat 1 (.ints .i64 gv5)⟩, ⟨false, .flat 0 (.ints .u8 gv6)⟩]) (fun x7 => L0 (slices_IndexFunc_suhf.st0 s0 gv1 gv2 gv3 gv4 gv5 gv6 x7)) (kv (.exit 0) (slices_IndexFunc_suhf.sx0_0 gv1 gv2 gv3 gv4 gv5 gv6)) s0 gv3 gv4 gv5 gv6 x7) := by kernel_rfl
theorem slices_IndexFunc_suhf.b0_eq {ρ : Type} (N : Nat) (K : AV → Heap → Option ρ) (L0 : St → Option ρ) (s0 : Nat) (gv1 : Nat) (gv2 : Nat) (gv3 : Nat → Nat) (gv4 : Nat → Nat) (gv5 : Nat → Int) (gv6 : Nat → Int) (x7 : Int) :
    xcode (E52 N) ents slices_IndexFunc_suhf.kp 3 N (cL (cK (cB (cA (cB slices_IndexFunc_suhf.bd))))) 0 (slices_IndexFunc_suhf.st0 s0 gv1 gv2 gv3 gv4 gv5 gv6 x7) (roundK slices_IndexFunc_suhf.kp 3 0 L0 (slices_IndexFunc_suhf.k0 N K gv1 gv2 gv3 gv4 gv5 gv6)) = (slices_IndexFunc_suhf.b0 N (fun d0 => K (.int .i64 (d0)) [⟨false, .hdr 2 gv1 gv2 gv3 gv4 none⟩, ⟨false, .flat 1 (.ints .i64 gv5)⟩, ⟨false, .flat 0 (.ints .u8 gv6)⟩]) (fun x7 => L0 (slices_IndexFunc_suhf.st0 s0 gv1 gv2 gv3 gv4 gv5 gv6 x7)) ((slices_IndexFunc_suhf.k0 N K gv1 gv2 gv3 gv4 gv5 gv6) (.exit 0) (slices_IndexFunc_suhf.sx0_0 gv1 gv2 gv3 gv4 gv5 gv6)) s0 gv3 gv4 gv5 gv6 x7) := by
  have h := slices_IndexFunc_suhf.b0_gen N K L0 (slices_IndexFunc_suhf.k0 N K gv1 gv2 gv3 gv4 gv5 gv6) s0 gv1 gv2 gv3 gv4 gv5 gv6 x7
  rw [slices_IndexFunc_suhf.k0_mix] at h
  exact h
theorem slices_IndexFunc_suhf.a0_0_eq {ρ : Type} (N : Nat) (K : AV → Heap → Option ρ) (gv1 : Nat) (gv2 : Nat) (gv3 : Nat → Nat) (gv4 : Nat → Nat) (gv5 : Nat → Int) (gv6 : Nat → Int) :
    (slices_IndexFunc_suhf.k0 N K gv1 gv2 gv3 gv4 gv5 gv6) (.exit 0) (slices_IndexFunc_suhf.sx0_0 gv1 gv2 gv3 gv4 gv5 gv6) = (slices_IndexFunc_suhf.a0_0 N (fun d0 => K (.int .i64 (d0)) [⟨false, .hdr 2 gv1 gv2 gv3 gv4 none⟩, ⟨false, .flat 1 (.ints .i64 gv5)⟩, ⟨false, .flat 0 (.ints .u8 gv6)⟩])) := by kernel_rfl
theorem slices_IndexFunc_suhf.l0_eq {ρ : Type} (N : Nat) (K : AV → Heap → Option ρ) (s0 : Nat) (gv1 : Nat) (gv2 : Nat) (gv3 : Nat → Nat) (gv4 : Nat → Nat) (gv5 : Nat → Int) (gv6 : Nat → Int) :
    ∀ (m : Nat) (x7 : Int), xloop (xcode (E52 N) ents slices_IndexFunc_suhf.kp 3 N (cL (cK (cB (cA (cB slices_IndexFunc_suhf.bd))))) 0) slices_IndexFunc_suhf.kp 3 0 m (slices_IndexFunc_suhf.st0 s0 gv1 gv2 gv3 gv4 gv5 gv6 x7) (slices_IndexFunc_suhf.k0 N K gv1 gv2 gv3 gv4 gv5 gv6) = (slices_IndexFunc_suhf.l0 N (fun d0 => K (.int .i64 (d0)) [⟨false, .hdr 2 gv1 gv2 gv3 gv4 none⟩, ⟨false, .flat 1 (.ints .i64 gv5)⟩, ⟨false, .flat 0 (.ints .u8 gv6)⟩]) s0 gv3 gv4 gv5 gv6 ((slices_IndexFunc_suhf.k0 N K gv1 gv2 gv3 gv4 gv5 gv6) (.exit 0) (slices_IndexFunc_suhf.sx0_0 gv1 gv2 gv3 gv4 gv5 gv6)) m x7) := by
  intro m
  induction m with
  | zero => intros; rfl
  | succ m ih =>
    intro x7
    refine (slices_IndexFunc_suhf.b0_eq N K (fun s => xloop (xcode (E52 N) ents slices_IndexFunc_suhf.kp 3 N (cL (cK (cB (cA (cB slices_IndexFunc_suhf.bd))))) 0) slices_IndexFunc_suhf.kp 3 0 m s (slices_IndexFunc_suhf.k0 N K gv1 gv2 gv3 gv4 gv5 gv6)) s0 gv1 gv2 gv3 gv4 gv5 gv6 x7).trans ?_
    simp only [ih]
    kernel_rfl
theorem slices_IndexFunc_suhf.s_eq {ρ : Type} (N : Nat) (K : AV → Heap → Option ρ) (s0 : Nat) (gv1 : Nat) (gv2 : Nat) (gv3 : Nat → Nat) (gv4 : Nat → Nat) (gv5 : Nat → Int) (gv6 : Nat → Int) :
    xbody (E52 N) ents slices_IndexFunc_suhf.kp N Try.f110 slices_IndexFunc_suhf.bd [.slice false 0 0 s0 .unk 1, .fn 111 0 [[(1, 1)]]] [⟨false, .hdr 2 gv1 gv2 gv3 gv4 none⟩, ⟨false, .flat 1 (.ints .i64 gv5)⟩, ⟨false, .flat 0 (.ints .u8 gv6)⟩] K = (slices_IndexFunc_suhf.s N (fun d0 => K (.int .i64 (d0)) [⟨false, .hdr 2 gv1 gv2 gv3 gv4 none⟩, ⟨false, .flat 1 (.ints .i64 gv5)⟩, ⟨false, .flat 0 (.ints .u8 gv6)⟩]) (fun x7 => xloop (xcode (E52 N) ents slices_IndexFunc_suhf.kp 3 N (cL (cK (cB (cA (cB slices_IndexFunc_suhf.bd))))) 0) slices_IndexFunc_suhf.kp 3 0 N (slices_IndexFunc_suhf.st0 s0 gv1 gv2 gv3 gv4 gv5 gv6 x7) (slices_IndexFunc_suhf.k0 N K gv1 gv2 gv3 gv4 gv5 gv6))) := by kernel_rfl
theorem slices_IndexFunc_suhf.eq {ρ : Type} (N : Nat) (K : AV → Heap → Option ρ) (s0 : Nat) (gv1 : Nat) (gv2 : Nat) (gv3 : Nat → Nat) (gv4 : Nat → Nat) (gv5 : Nat → Int) (gv6 : Nat → Int) :
    xbody (E52 N) ents slices_IndexFunc_suhf.kp N Try.f110 slices_IndexFunc_suhf.bd [.slice false 0 0 s0 .unk 1, .fn 111 0 [[(1, 1)]]] [⟨false, .hdr 2 gv1 gv2 gv3 gv4 none⟩, ⟨false, .flat 1 (.ints .i64 gv5)⟩, ⟨false, .flat 0 (.ints .u8 gv6)⟩] K = (slices_IndexFunc_suhf N (fun d0 => K (.int .i64 (d0)) [⟨false, .hdr 2 gv1 gv2 gv3 gv4 none⟩, ⟨false, .flat 1 (.ints .i64 gv5)⟩, ⟨false, .flat 0 (.ints .u8 gv6)⟩]) s0 gv1 gv2 gv3 gv4 gv5 gv6) := by
  refine (slices_IndexFunc_suhf.s_eq N K s0 gv1 gv2 gv3 gv4 gv5 gv6).trans ?_
  simp only [slices_IndexFunc_suhf.l0_eq, slices_IndexFunc_suhf.a0_0_eq]
  kernel_rfl
def slices_IndexFunc_suhf_v2.kp : Keeps := ⟨[(0, [0, 1, 7, 8], [], [])], [(0, [], [], [])], []⟩
def slices_IndexFunc_suhf_v2.bd : Code := bodyOf Try.f110
def slices_IndexFunc_suhf_v2.fin {ρ : Type} (N : Nat) (K : AV → Heap → Option ρ) (gv1 : Nat) (gv2 : Nat) (gv3 : Nat → Nat) (gv4 : Nat → Nat) (gv5 : Nat → Int) (gv6 : Nat → Int) (gv7 : Nat → Int) (gv8 : Nat) (gv9 : Nat) (gv10 : Nat) (gv11 : Nat) (gv12 : Nat → Nat) (gv13 : Nat → Nat) (gv14 : Nat) (gv15 : Nat → Int) : XE → St → Option ρ := finK (E52 N) slices_IndexFunc_suhf_v2.kp.fins Try.f110 [⟨false, .hdr 2 gv1 gv2 gv3 gv4 none⟩, ⟨false, .avs [.sptr [(3, 2), (4, 1), (5, 1), (6, 1)]]⟩, ⟨false, .flat 0 (.ints .u8 gv5)⟩, ⟨false, .flat 2 (.ints .i64 gv6)⟩, ⟨false, .flat 1 (.ints .i64 gv7)⟩, ⟨false, .avs [.slice false 7 0 gv8 .unk 1]⟩, ⟨false, .avs [.slice false 8 0 gv9 .unk 1]⟩, ⟨false, .hdr 2 gv10 gv11 gv12 gv13 none⟩, ⟨false, .flat gv14 (.ints .i64 gv15)⟩] K
def slices_IndexFunc_suhf_v2.k0 {ρ : Type} (N : Nat) (K : AV → Heap → Option ρ) (gv1 : Nat) (gv2 : Nat) (gv3 : Nat → Nat) (gv4 : Nat → Nat) (gv5 : Nat → Int) (gv6 : Nat → Int) (gv7 : Nat → Int) (gv8 : Nat) (gv9 : Nat) (gv10 : Nat) (gv11 : Nat) (gv12 : Nat → Nat) (gv13 : Nat → Nat) (gv14 : Nat) (gv15 : Nat → Int) : XE → St → Option ρ := (blockK slices_IndexFunc_suhf_v2.kp 9 0 (seqK (xcode (E52 N) ents slices_IndexFunc_suhf_v2.kp 9 N (cB (cB slices_IndexFunc_suhf_v2.bd)) 0) (slices_IndexFunc_suhf_v2.fin N K gv1 gv2 gv3 gv4 gv5 gv6 gv7 gv8 gv9 gv10 gv11 gv12 gv13 gv14 gv15)))
theorem slices_IndexFunc_suhf_v2.k0_mix {ρ : Type} (N : Nat) (K : AV → Heap → Option ρ) (gv1 : Nat) (gv2 : Nat) (gv3 : Nat → Nat) (gv4 : Nat → Nat) (gv5 : Nat → Int) (gv6 : Nat → Int) (gv7 : Nat → Int) (gv8 : Nat) (gv9 : Nat) (gv10 : Nat) (gv11 : Nat) (gv12 : Nat → Nat) (gv13 : Nat → Nat) (gv14 : Nat) (gv15 : Nat → Int) : mixK (slices_IndexFunc_suhf_v2.fin N K gv1 gv2 gv3 gv4 gv5 gv6 gv7 gv8 gv9 gv10 gv11 gv12 gv13 gv14 gv15 .ret) (slices_IndexFunc_suhf_v2.k0 N K gv1 gv2 gv3 gv4 gv5 gv6 gv7 gv8 gv9 gv10 gv11 gv12 gv13 gv14 gv15) = (slices_IndexFunc_suhf_v2.k0 N K gv1 gv2 gv3 gv4 gv5 gv6 gv7 gv8 gv9 gv10 gv11 gv12 gv13 gv14 gv15) := by
  funext e s; cases e <;> kernel_rfl
def slices_IndexFunc_suhf_v2.st0 (s0 : Nat) (gv1 : Nat) (gv2 : Nat) (gv3 : Nat → Nat) (gv4 : Nat → Nat) (gv5 : Nat → Int) (gv6 : Nat → Int) (gv7 : Nat → Int) (gv8 : Nat) (gv9 : Nat) (gv10 : Nat) (gv11 : Nat) (gv12 : Nat → Nat) (gv13 : Nat → Nat) (gv14 : Nat) (gv15 : Nat → Int) (x16 : Int) : St := ⟨sl 19 [(0, .slice false 0 0 s0 .unk 1), (1, .fn 114 0 [[(1, 1)]]), (7, .int .i64 ((s0 : Int))), (8, .int .i64 (x16))], [⟨false, .hdr 2 gv1 gv2 gv3 gv4 none⟩, ⟨false, .avs [.sptr [(3, 2), (4, 1), (5, 1), (6, 1)]]⟩, ⟨false, .flat 0 (.ints .u8 gv5)⟩, ⟨false, .flat 2 (.ints .i64 gv6)⟩, ⟨false, .flat 1 (.ints .i64 gv7)⟩, ⟨false, .avs [.slice false 7 0 gv8 .unk 1]⟩, ⟨false, .avs [.slice false 8 0 gv9 .unk 1]⟩, ⟨false, .hdr 2 gv10 gv11 gv12 gv13 none⟩, ⟨false, .flat gv14 (.ints .i64 gv15)⟩]⟩
def slices_IndexFunc_suhf_v2.sx0_0 (gv1 : Nat) (gv2 : Nat) (gv3 : Nat → Nat) (gv4 : Nat → Nat) (gv5 : Nat → Int) (gv6 : Nat → Int) (gv7 : Nat → Int) (gv8 : Nat) (gv9 : Nat) (gv10 : Nat) (gv11 : Nat) (gv12 : Nat → Nat) (gv13 : Nat → Nat) (gv14 : Nat) (gv15 : Nat → Int) : St := ⟨sl 19 [], [⟨false, .hdr 2 gv1 gv2 gv3 gv4 none⟩, ⟨false, .avs [.sptr [(3, 2), (4, 1), (5, 1), (6, 1)]]⟩, ⟨false, .flat 0 (.ints .u8 gv5)⟩, ⟨false, .flat 2 (.ints .i64 gv6)⟩, ⟨false, .flat 1 (.ints .i64 gv7)⟩, ⟨false, .avs [.slice false 7 0 gv8 .unk 1]⟩, ⟨false, .avs [.slice false 8 0 gv9 .unk 1]⟩, ⟨false, .hdr 2 gv10 gv11 gv12 gv13 none⟩, ⟨false, .flat gv14 (.ints .i64 gv15)⟩]⟩
theorem slices_IndexFunc_suhf_v2.b0_gen {ρ : Type} (N : Nat) (K : AV → Heap → Option ρ) (L0 : St → Option ρ) (kv : XE → St → Option ρ) (s0 : Nat) (gv1 : Nat) (gv2 : Nat) (gv3 : Nat → Nat) (gv4 : Nat → Nat) (gv5 : Nat → Int) (gv6 : Nat → Int) (gv7 : Nat → Int) (gv8 : Nat) (gv9 : Nat) (gv10 : Nat) (gv11 : Nat) (gv12 : Nat → Nat) (gv13 : Nat → Nat) (gv14 : Nat) (gv15 : Nat → Int) (x16 : Int) :
    xcode (E52 N) ents slices_IndexFunc_suhf_v2.kp 9 N (cL (cK (cB (cA (cB slices_IndexFunc_suhf_v2.bd))))) 0 (slices_IndexFunc_suhf_v2.st0 s0 gv1 gv2 gv3 gv4 gv5 gv6 gv7 gv8 gv9 gv10 gv11 gv12 gv13 gv14 gv15 x16) (roundK slices_IndexFunc_suhf_v2.kp 9 0 L0 (mixK (slices_IndexFunc_suhf_v2.fin N K gv1 gv2 gv3 gv4 gv5 gv6 gv7 gv8 gv9 gv10 gv11 gv12 gv13 gv14 gv15 .ret) kv)) = (slices_IndexFunc_suhf_v2.b0 N (fun d0 => K (.int .i64 (d0)) [⟨false, .hdr 2 gv1 gv2 gv3 gv4 none⟩, ⟨false, .avs [.sptr [(3, 2), (4, 1), (5, 1), (6, 1)]]⟩, ⟨false, .flat 0 (.ints .u8 gv5)⟩, ⟨false, .flat 2 (.ints .i64 gv6)⟩, ⟨false, .flat 1 (.ints .i64 gv7)⟩, ⟨false, .avs [.slice false 7 0 gv8 .unk 1]⟩, ⟨false, .avs [.slice false 8 0 gv9 .unk 1]⟩, ⟨false, .hdr 2 gv10 gv11 gv12 gv13 none⟩, ⟨false, .flat gv14 (.ints .i64 gv15)⟩]) (fun x16 => L0 (slices_IndexFunc_suhf_v2.st0 s0 gv1 gv2 gv3 gv4 gv5 gv6 gv7 gv8 gv9 gv10 gv11 gv12 gv13 gv14 gv15 x16)) (kv (.exit 0) (slices_IndexFunc_suhf_v2.sx0_0 gv1 gv2 gv3 gv4 gv5 gv6 gv7 gv8 gv9 gv10 gv11 gv12 gv13 gv14 gv15)) s0 gv3 gv4 gv5 gv6 gv7 gv8 gv9 gv11 gv12 gv13 gv15 x16) := by kernel_rfl
theorem slices_IndexFunc_suhf_v2.b0_eq {ρ : Type} (N : Nat) (K : AV → Heap → Option ρ) (L0 : St → Option ρ) (s0 : Nat) (gv1 : Nat) (gv2 : Nat) (gv3 : Nat → Nat) (gv4 : Nat → Nat) (gv5 : Nat → Int) (gv6 : Nat → Int) (gv7 : Nat → Int) (gv8 : Nat) (gv9 : Nat) (gv10 : Nat) (gv11 : Nat) (gv12 : Nat → Nat) (gv13 : Nat → Nat) (gv14 : Nat) (gv15 : Nat → Int) (x16 : Int) :
    xcode (E52 N) ents slices_IndexFunc_suhf_v2.kp 9 N (cL (cK (cB (cA (cB slices_IndexFunc_suhf_v2.bd))))) 0 (slices_IndexFunc_suhf_v2.st0 s0 gv1 gv2 gv3 gv4 gv5 gv6 gv7 gv8 gv9 gv10 gv11 gv12 gv13 gv14 gv15 x16) (roundK slices_IndexFunc_suhf_v2.kp 9 0 L0 (slices_IndexFunc_suhf_v2.k0 N K gv1 gv2 gv3 gv4 gv5 gv6 gv7 gv8 gv9 gv10 gv11 gv12 gv13 gv14 gv15)) = (slices_IndexFunc_suhf_v2.b0 N (fun d0 => K (.int .i64 (d0)) [⟨false, .hdr 2 gv1 gv2 gv3 gv4 none⟩, ⟨false, .avs [.sptr [(3, 2), (4, 1), (5, 1), (6, 1)]]⟩, ⟨false, .flat 0 (.ints .u8 gv5)⟩, ⟨false, .flat 2 (.ints .i64 gv6)⟩, ⟨false, .flat 1 (.ints .i64 gv7)⟩, ⟨false, .avs [.slice false 7 0 gv8 .unk 1]⟩, ⟨false, .avs [.slice false 8 0 gv9 .unk 1]⟩, ⟨false, .hdr 2 gv10 gv11 gv12 gv13 none⟩, ⟨false, .flat gv14 (.ints .i64 gv15)⟩]) (fun x16 => L0 (slices_IndexFunc_suhf_v2.st0 s0 gv1 gv2 gv3 gv4 gv5 gv6 gv7 gv8 gv9 gv10 gv11 gv12 gv13 gv14 gv15 x16)) ((slices_IndexFunc_suhf_v2.k0 N K gv1 gv2 gv3 gv4 gv5 gv6 gv7 gv8 gv9 gv10 gv11 gv12 gv13 gv14 gv15) (.exit 0) (slices_IndexFunc_suhf_v2.sx0_0 gv1 gv2 gv3 gv4 gv5 gv6 gv7 gv8 gv9 gv10 gv11 gv12 gv13 gv14 gv15)) s0 gv3 gv4 gv5 gv6 gv7 gv8 gv9 gv11 gv12 gv13 gv15 x16) := by
  have h := slices_IndexFunc_suhf_v2.b0_gen N K L0 (slices_IndexFunc_suhf_v2.k0 N K gv1 gv2 gv3 gv4 gv5 gv6 gv7 gv8 gv9 gv10 gv11 gv12 gv13 gv14 gv15) s0 gv1 gv2 gv3 gv4 gv5 gv6 gv7 gv8 gv9 gv10 gv11 gv12 gv13 gv14 gv15 x16
  rw [slices_IndexFunc_suhf_v2.k0_mix] at h
  exact h
theorem slices_IndexFunc_suhf_v2.a0_0_eq {ρ : Type} (N : Nat) (K : AV → Heap → Option ρ) (gv1 : Nat) (gv2 : Nat) (gv3 : Nat → Nat) (gv4 : Nat → Nat) (gv5 : Nat → Int) (gv6 : Nat → Int) (gv7 : Nat → Int) (gv8 : Nat) (gv9 : Nat) (gv10 : Nat) (gv11 : Nat) (gv12 : Nat → Nat) (gv13 : Nat → Nat) (gv14 : Nat) (gv15 : Nat → Int) :
    (slices_IndexFunc_suhf_v2.k0 N K gv1 gv2 gv3 gv4 gv5 gv6 gv7 gv8 gv9 gv10 gv11 gv12 gv13 gv14 gv15) (.exit 0) (slices_IndexFunc_suhf_v2.sx0_0 gv1 gv2 gv3 gv4 gv5 gv6 gv7 gv8 gv9 gv10 gv11 gv12 gv13 gv14 gv15) = (slices_IndexFunc_suhf_v2.a0_0 N (fun d0 => K (.int .i64 (d0)) [⟨false, .hdr 2 gv1 gv2 gv3 gv4 none⟩, ⟨false, .avs [.sptr [(3, 2), (4, 1), (5, 1), (6, 1)]]⟩, ⟨false, .flat 0 (.ints .u8 gv5)⟩, ⟨false, .flat 2 (.ints .i64 gv6)⟩, ⟨false, .flat 1 (.ints .i64 gv7)⟩, ⟨false, .avs [.slice false 7 0 gv8 .unk 1]⟩, ⟨false, .avs [.slice false 8 0 gv9 .unk 1]⟩, ⟨false, .hdr 2 gv10 gv11 gv12 gv13 none⟩, ⟨false, .flat gv14 (.ints .i64 gv15)⟩])) := by kernel_rfl
theorem slices_IndexFunc_suhf_v2.l0_eq {ρ : Type} (N : Nat) (K : AV → Heap → Option ρ) (s0 : Nat) (gv1 : Nat) (gv2 : Nat) (gv3 : Nat → Nat) (gv4 : Nat → Nat) (gv5 : Nat → Int) (gv6 : Nat → Int) (gv7 : Nat → Int) (gv8 : Nat) (gv9 : Nat) (gv10 : Nat) (gv11 : Nat) (gv12 : Nat → Nat) (gv13 : Nat → Nat) (gv14 : Nat) (gv15 : Nat → Int) :
    ∀ (m : Nat) (x16 : Int), xloop (xcode (E52 N) ents slices_IndexFunc_suhf_v2.kp 9 N (cL (cK (cB (cA (cB slices_IndexFunc_suhf_v2.bd))))) 0) slices_IndexFunc_suhf_v2.kp 9 0 m (slices_IndexFunc_suhf_v2.st0 s0 gv1 gv2 gv3 gv4 gv5 gv6 gv7 gv8 gv9 gv10 gv11 gv12 gv13 gv14 gv15 x16) (slices_IndexFunc_suhf_v2.k0 N K gv1 gv2 gv3 gv4 gv5 gv6 gv7 gv8 gv9 gv10 gv11 gv12 gv13 gv14 gv15) = (slices_IndexFunc_suhf_v2.l0 N (fun d0 => K (.int .i64 (d0)) [⟨false, .hdr 2 gv1 gv2 gv3 gv4 none⟩, ⟨false, .avs [.sptr [(3, 2), (4, 1), (5, 1), (6, 1)]]⟩, ⟨false, .flat 0 (.ints .u8 gv5)⟩, ⟨false, .flat 2 (.ints .i64 gv6)⟩, ⟨false, .flat 1 (.ints .i64 gv7)⟩, ⟨false, .avs [.slice false 7 0 gv8 .unk 1]⟩, ⟨false, .avs [.slice false 8 0 gv9 .unk 1]⟩, ⟨false, .hdr 2 gv10 gv11 gv12 gv13 none⟩, ⟨false, .flat gv14 (.ints .i64 gv15)⟩]) s0 gv3 gv4 gv5 gv6 gv7 gv8 gv9 gv11 gv12 gv13 gv15 ((slices_IndexFunc_suhf_v2.k0 N K gv1 gv2 gv3 gv4 gv5 gv6 gv7 gv8 gv9 gv10 gv11 gv12 gv13 gv14 gv15) (.exit 0) (slices_IndexFunc_suhf_v2.sx0_0 gv1 gv2 gv3 gv4 gv5 gv6 gv7 gv8 gv9 gv10 gv11 gv12 gv13 gv14 gv15)) m x16) := by
  intro m
  induction m with
  | zero => intros; rfl
  | succ m ih =>
    intro x16
    refine (slices_IndexFunc_suhf_v2.b0_eq N K (fun s => xloop (xcode (E52 N) ents slices_IndexFunc_suhf_v2.kp 9 N (cL (cK (cB (cA (cB slices_IndexFunc_suhf_v2.bd))))) 0) slices_IndexFunc_suhf_v2.kp 9 0 m s (slices_IndexFunc_suhf_v2.k0 N K gv1 gv2 gv3 gv4 gv5 gv6 gv7 gv8 gv9 gv10 gv11 gv12 gv13 gv14 gv15)) s0 gv1 gv2 gv3 gv4 gv5 gv6 gv7 gv8 gv9 gv10 gv11 gv12 gv13 gv14 gv15 x16).trans ?_
    simp only [ih]
    kernel_rfl
theorem slices_IndexFunc_suhf_v2.s_eq {ρ : Type} (N : Nat) (K : AV → Heap → Option ρ) (s0 : Nat) (gv1 : Nat) (gv2 : Nat) (gv3 : Nat → Nat) (gv4 : Nat → Nat) (gv5 : Nat → Int) (gv6 : Nat → Int) (gv7 : Nat → Int) (gv8 : Nat) (gv9 : Nat) (gv10 : Nat) (gv11 : Nat) (gv12 : Nat → Nat) (gv13 : Nat → Nat) (gv14 : Nat) (gv15 : Nat → Int) :
    xbody (E52 N) ents slices_IndexFunc_suhf_v2.kp N Try.f110 slices_IndexFunc_suhf_v2.bd [.slice false 0 0 s0 .unk 1, .fn 114 0 [[(1, 1)]]] [⟨false, .hdr 2 gv1 gv2 gv3 gv4 none⟩, ⟨false, .avs [.sptr [(3, 2), (4, 1), (5, 1), (6, 1)]]⟩, ⟨false, .flat 0 (.ints .u8 gv5)⟩, ⟨false, .flat 2 (.ints .i64 gv6)⟩, ⟨false, .flat 1 (.ints .i64 gv7)⟩, ⟨false, .avs [.slice false 7 0 gv8 .unk 1]⟩, ⟨false, .avs [.slice false 8 0 gv9 .unk 1]⟩, ⟨false, .hdr 2 gv10 gv11 gv12 gv13 none⟩, ⟨false, .flat gv14 (.ints .i64 gv15)⟩] K = (slices_IndexFunc_suhf_v2.s N (fun d0 => K (.int .i64 (d0)) [⟨false, .hdr 2 gv1 gv2 gv3 gv4 none⟩, ⟨false, .avs [.sptr [(3, 2), (4, 1), (5, 1), (6, 1)]]⟩, ⟨false, .flat 0 (.ints .u8 gv5)⟩, ⟨false, .flat 2 (.ints .i64 gv6)⟩, ⟨false, .flat 1 (.ints .i64 gv7)⟩, ⟨false, .avs [.slice false 7 0 gv8 .unk 1]⟩, ⟨false, .avs [.slice false 8 0 gv9 .unk 1]⟩, ⟨false, .hdr 2 gv10 gv11 gv12 gv13 none⟩, ⟨false, .flat gv14 (.ints .i64 gv15)⟩]) (fun x16 => xloop (xcode (E52 N) ents slices_IndexFunc_suhf_v2.kp 9 N (cL (cK (cB (cA (cB slices_IndexFunc_suhf_v2.bd))))) 0) slices_IndexFunc_suhf_v2.kp 9 0 N (slices_IndexFunc_suhf_v2.st0 s0 gv1 gv2 gv3 gv4 gv5 gv6 gv7 gv8 gv9 gv10 gv11 gv12 gv13 gv14 gv15 x16) (slices_IndexFunc_suhf_v2.k0 N K gv1 gv2 gv3 gv4 gv5 gv6 gv7 gv8 gv9 gv10 gv11 gv12 gv13 gv14 gv15))) := by kernel_rfl
theorem slices_IndexFunc_suhf_v2.eq {ρ : Type} (N : Nat) (K : AV → Heap → Option ρ) (s0 : Nat) (gv1 : Nat) (gv2 : Nat) (gv3 : Nat → Nat) (gv4 : Nat → Nat) (gv5 : Nat → Int) (gv6 : Nat → Int) (gv7 : Nat → Int) (gv8 : Nat) (gv9 : Nat) (gv10 : Nat) (gv11 : Nat) (gv12 : Nat → Nat) (gv13 : Nat → Nat) (gv14 : Nat) (gv15 : Nat → Int) :
    xbody (E52 N) ents slices_IndexFunc_suhf_v2.kp N Try.f110 slices_IndexFunc_suhf_v2.bd [.slice false 0 0 s0 .unk 1, .fn 114 0 [[(1, 1)]]] [⟨false, .hdr 2 gv1 gv2 gv3 gv4 none⟩, ⟨false, .avs [.sptr [(3, 2), (4, 1), (5, 1), (6, 1)]]⟩, ⟨false, .flat 0 (.ints .u8 gv5)⟩, ⟨false, .flat 2 (.ints .i64 gv6)⟩, ⟨false, .flat 1 (.ints .i64 gv7)⟩, ⟨false, .avs [.slice false 7 0 gv8 .unk 1]⟩, ⟨false, .avs [.slice false 8 0 gv9 .unk 1]⟩, ⟨false, .hdr 2 gv10 gv11 gv12 gv13 none⟩, ⟨false, .flat gv14 (.ints .i64 gv15)⟩] K = (slices_IndexFunc_suhf_v2 N (fun d0 => K (.int .i64 (d0)) [⟨false, .hdr 2 gv1 gv2 gv3 gv4 none⟩, ⟨false, .avs [.sptr [(3, 2), (4, 1), (5, 1), (6, 1)]]⟩, ⟨false, .flat 0 (.ints .u8 gv5)⟩, ⟨false, .flat 2 (.ints .i64 gv6)⟩, ⟨false, .flat 1 (.ints .i64 gv7)⟩, ⟨false, .avs [.slice false 7 0 gv8 .unk 1]⟩, ⟨false, .avs [.slice false 8 0 gv9 .unk 1]⟩, ⟨false, .hdr 2 gv10 gv11 gv12 gv13 none⟩, ⟨false, .flat gv14 (.ints .i64 gv15)⟩]) s0 gv1 gv2 gv3 gv4 gv5 gv6 gv7 gv8 gv9 gv10 gv11 gv12 gv13 gv14 gv15) := by
  refine (slices_IndexFunc_suhf_v2.s_eq N K s0 gv1 gv2 gv3 gv4 gv5 gv6 gv7 gv8 gv9 gv10 gv11 gv12 gv13 gv14 gv15).trans ?_
  simp only [slices_IndexFunc_suhf_v2.l0_eq, slices_IndexFunc_suhf_v2.a0_0_eq]
  kernel_rfl
def slices_IndexFunc_suhf.en (N : Nat) (ρ : Type) : List AV → Heap → (AV → Heap → Option ρ) → Option ρ
  | [.slice false 0 0 s0 .unk 1, .fn 111 0 [[(1, 1)]]], [⟨false, .hdr 2 gv1 gv2 gv3 gv4 none⟩, ⟨false, .flat 1 (.ints .i64 gv5)⟩, ⟨false, .flat 0 (.ints .u8 gv6)⟩], K => (slices_IndexFunc_suhf N (fun d0 => K (.int .i64 (d0)) [⟨false, .hdr 2 gv1 gv2 gv3 gv4 none⟩, ⟨false, .flat 1 (.ints .i64 gv5)⟩, ⟨false, .flat 0 (.ints .u8 gv6)⟩]) s0 gv1 gv2 gv3 gv4 gv5 gv6)
  | [.slice false 0 0 s0 .unk 1, .fn 114 0 [[(1, 1)]]], [⟨false, .hdr 2 gv1 gv2 gv3 gv4 none⟩, ⟨false, .avs [.sptr [(3, 2), (4, 1), (5, 1), (6, 1)]]⟩, ⟨false, .flat 0 (.ints .u8 gv5)⟩, ⟨false, .flat 2 (.ints .i64 gv6)⟩, ⟨false, .flat 1 (.ints .i64 gv7)⟩, ⟨false, .avs [.slice false 7 0 gv8 .unk 1]⟩, ⟨false, .avs [.slice false 8 0 gv9 .unk 1]⟩, ⟨false, .hdr 2 gv10 gv11 gv12 gv13 none⟩, ⟨false, .flat gv14 (.ints .i64 gv15)⟩], K => (slices_IndexFunc_suhf_v2 N (fun d0 => K (.int .i64 (d0)) [⟨false, .hdr 2 gv1 gv2 gv3 gv4 none⟩, ⟨false, .avs [.sptr [(3, 2), (4, 1), (5, 1), (6, 1)]]⟩, ⟨false, .flat 0 (.ints .u8 gv5)⟩, ⟨false, .flat 2 (.ints .i64 gv6)⟩, ⟨false, .flat 1 (.ints .i64 gv7)⟩, ⟨false, .avs [.slice false 7 0 gv8 .unk 1]⟩, ⟨false, .avs [.slice false 8 0 gv9 .unk 1]⟩, ⟨false, .hdr 2 gv10 gv11 gv12 gv13 none⟩, ⟨false, .flat gv14 (.ints .i64 gv15)⟩]) s0 gv1 gv2 gv3 gv4 gv5 gv6 gv7 gv8 gv9 gv10 gv11 gv12 gv13 gv14 gv15)
  | _, _, _ => none
theorem slices_IndexFunc_suhf.en_ok (N : Nat) (hE : EnvOk (E52 N) ents) (ρ : Type) (args : List AV) (sh : Heap) (K : AV → Heap → Option ρ) (r : ρ) (h : slices_IndexFunc_suhf.en N ρ args sh K = some r) : ∃ v sh', K v sh' = some r ∧ FnOk (E52 N).P 110 args sh v sh' := by
  unfold slices_IndexFunc_suhf.en at h
  split at h
  · exact fn_ok hE (kp := slices_IndexFunc_suhf.kp) (N := N) Try.func110 (c := slices_IndexFunc_suhf.bd) (by kernel_rfl) ((slices_IndexFunc_suhf.eq N _ _ _ _ _ _ _ _).trans h)
  · exact fn_ok hE (kp := slices_IndexFunc_suhf_v2.kp) (N := N) Try.func110 (c := slices_IndexFunc_suhf_v2.bd) (by kernel_rfl) ((slices_IndexFunc_suhf_v2.eq N _ _ _ _ _ _ _ _ _ _ _ _ _ _ _ _ _).trans h)
  · cases h
def E53 (N : Nat) : Env := (E52 N).add 110 (slices_IndexFunc_suhf.en N)
theorem E53_ok (N : Nat) : EnvOk (E53 N) ents := Env.add_ok (E52_ok N) (slices_IndexFunc_suhf.en_ok N (E52_ok N))
def impl_field_inverse.kp : Keeps := ⟨[(0, [1, 2, 5], [], [])], [(0, [2], [], [])], []⟩
def impl_field_inverse.bd : Code := bodyOf Try.f118
def impl_field_inverse.fin {ρ : Type} (N : Nat) (K : AV → Heap → Option ρ) : XE → St → Option ρ := finK (E53 N) impl_field_inverse.kp.fins Try.f118 [] K
def impl_field_inverse.k0 {ρ : Type} (N : Nat) (K : AV → Heap → Option ρ) : XE → St → Option ρ := (blockK impl_field_inverse.kp 0 0 (seqK (xcode (E53 N) ents impl_field_inverse.kp 0 N (cB (cB impl_field_inverse.bd)) 0) (impl_field_inverse.fin N K)))
theorem impl_field_inverse.k0_mix {ρ : Type} (N : Nat) (K : AV → Heap → Option ρ) : mixK (impl_field_inverse.fin N K .ret) (impl_field_inverse.k0 N K) = (impl_field_inverse.k0 N K) := by
  funext e s; cases e <;> kernel_rfl
def impl_field_inverse.st0 (f0 : Nat → Int) (x1 : Int) (k2 : Int) : St := ⟨sl 24 [(1, .int .u8 (x1)), (2, .sptr [(0, 2)]), (5, .int .i64 (k2))], [⟨true, .flat 2 (.ints .i64 f0)⟩]⟩
def impl_field_inverse.sx0_0 (f0 : Nat → Int) : St := ⟨sl 24 [(2, .sptr [(0, 2)])], [⟨true, .flat 2 (.ints .i64 f0)⟩]⟩
theorem impl_field_inverse.b0_gen {ρ : Type} (N : Nat) (K : AV → Heap → Option ρ) (L0 : St → Option ρ) (kv : XE → St → Option ρ) (f0 : Nat → Int) (x1 : Int) (k2 : Int) :
    xcode (E53 N) ents impl_field_inverse.kp 0 N (cL (cK (cB (cA (cB impl_field_inverse.bd))))) 0 (impl_field_inverse.st0 f0 x1 k2) (roundK impl_field_inverse.kp 0 0 L0 (mixK (impl_field_inverse.fin N K .ret) kv)) = (impl_field_inverse.b0 N (fun d0 => K (.int .i64 (d0)) []) (fun k2 => L0 (impl_field_inverse.st0 f0 x1 k2)) (kv (.exit 0) (impl_field_inverse.sx0_0 f0)) f0 x1 k2) := by kernel_rfl
theorem impl_field_inverse.b0_eq {ρ : Type} (N : Nat) (K : AV → Heap → Option ρ) (L0 : St → Option ρ) (f0 : Nat → Int) (x1 : Int) (k2 : Int) :
    xcode (E53 N) ents impl_field_inverse.kp 0 N (cL (cK (cB (cA (cB impl_field_inverse.bd))))) 0 (impl_field_inverse.st0 f0 x1 k2) (roundK impl_field_inverse.kp 0 0 L0 (impl_field_inverse.k0 N K)) = (impl_field_inverse.b0 N (fun d0 => K (.int .i64 (d0)) []) (fun k2 => L0 (impl_field_inverse.st0 f0 x1 k2)) ((impl_field_inverse.k0 N K) (.exit 0) (impl_field_inverse.sx0_0 f0)) f0 x1 k2) := by
  have h := impl_field_inverse.b0_gen N K L0 (impl_field_inverse.k0 N K) f0 x1 k2
  rw [impl_field_inverse.k0_mix] at h
  exact h
theorem impl_field_inverse.a0_0_eq {ρ : Type} (N : Nat) (K : AV → Heap → Option ρ) (f0 : Nat → Int) :
    (impl_field_inverse.k0 N K) (.exit 0) (impl_field_inverse.sx0_0 f0) = (impl_field_inverse.a0_0 N (fun d0 => K (.int .i64 (d0)) []) f0) := by kernel_rfl
theorem impl_field_inverse.l0_eq {ρ : Type} (N : Nat) (K : AV → Heap → Option ρ) (f0 : Nat → Int) (x1 : Int) :
    ∀ (m : Nat) (k2 : Int), xloop (xcode (E53 N) ents impl_field_inverse.kp 0 N (cL (cK (cB (cA (cB impl_field_inverse.bd))))) 0) impl_field_inverse.kp 0 0 m (impl_field_inverse.st0 f0 x1 k2) (impl_field_inverse.k0 N K) = (impl_field_inverse.l0 N (fun d0 => K (.int .i64 (d0)) []) f0 x1 ((impl_field_inverse.k0 N K) (.exit 0) (impl_field_inverse.sx0_0 f0)) m k2) := by
  intro m
  induction m with
  | zero => intros; rfl
  | succ m ih =>
    intro k2
    refine (impl_field_inverse.b0_eq N K (fun s => xloop (xcode (E53 N) ents impl_field_inverse.kp 0 N (cL (cK (cB (cA (cB impl_field_inverse.bd))))) 0) impl_field_inverse.kp 0 0 m s (impl_field_inverse.k0 N K)) f0 x1 k2).trans ?_
    simp only [ih]
    kernel_rfl
theorem impl_field_inverse.s_eq {ρ : Type} (N : Nat) (K : AV → Heap → Option ρ) (f0 : Nat → Int) (x1 : Int) :
    xbody (E53 N) ents impl_field_inverse.kp N Try.f118 impl_field_inverse.bd [.agg [⟨.i64, 2, f0⟩], .int .u8 (x1)] [] K = (impl_field_inverse.s N (fun d0 => K (.int .i64 (d0)) []) (fun k2 => xloop (xcode (E53 N) ents impl_field_inverse.kp 0 N (cL (cK (cB (cA (cB impl_field_inverse.bd))))) 0) impl_field_inverse.kp 0 0 N (impl_field_inverse.st0 f0 x1 k2) (impl_field_inverse.k0 N K))) := by kernel_rfl
theorem impl_field_inverse.eq {ρ : Type} (N : Nat) (K : AV → Heap → Option ρ) (f0 : Nat → Int) (x1 : Int) :
    xbody (E53 N) ents impl_field_inverse.kp N Try.f118 impl_field_inverse.bd [.agg [⟨.i64, 2, f0⟩], .int .u8 (x1)] [] K = (impl_field_inverse N (fun d0 => K (.int .i64 (d0)) []) f0 x1) := by
  refine (impl_field_inverse.s_eq N K f0 x1).trans ?_
  simp only [impl_field_inverse.l0_eq, impl_field_inverse.a0_0_eq]
  kernel_rfl
def impl_field_inverse.en (N : Nat) (ρ : Type) : List AV → Heap → (AV → Heap → Option ρ) → Option ρ
  | [.agg [⟨.i64, 2, f0⟩], .int .u8 (x1)], [], K => (impl_field_inverse N (fun d0 => K (.int .i64 (d0)) []) f0 x1)
  | _, _, _ => none
theorem impl_field_inverse.en_ok (N : Nat) (hE : EnvOk (E53 N) ents) (ρ : Type) (args : List AV) (sh : Heap) (K : AV → Heap → Option ρ) (r : ρ) (h : impl_field_inverse.en N ρ args sh K = some r) : ∃ v sh', K v sh' = some r ∧ FnOk (E53 N).P 118 args sh v sh' := by
  unfold impl_field_inverse.en at h
  split at h
  · exact fn_ok hE (kp := impl_field_inverse.kp) (N := N) Try.func118 (c := impl_field_inverse.bd) (by kernel_rfl) ((impl_field_inverse.eq N _ _ _).trans h)
  · cases h
def E54 (N : Nat) : Env := (E53 N).add 118 (impl_field_inverse.en N)
theorem E54_ok (N : Nat) : EnvOk (E54 N) ents := Env.add_ok (E53_ok N) (impl_field_inverse.en_ok N (E53_ok N))
end
end Go.Proofs.Ytmjpfchbkolcbaa.H
