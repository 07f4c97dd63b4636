/- The program computes these functions. -/
import Derived.Test.YtgfmgfgjpobndaaHL2
namespace Go.Proofs.Ytgfmgfgjpobndaa.H
set_option linter.unusedVariables false
set_option linter.unusedSimpArgs false
open Go Go.RowKit Go.Proofs.Ytgfmgfgjpobndaa.Hy
set_option linter.unusedVariables false
set_option maxRecDepth 100000
noncomputable def impl_dualTable.kp : Keeps := ⟨[(0, [0, 2, 3, 8], [], []), (2, [0, 2, 3, 4, 8, 11], [], []), (4, [0, 2, 3, 4, 5, 8, 11, 14], [], [])], [(0, [2, 3], [], []), (2, [0, 2, 3, 8], [], []), (4, [0, 2, 3, 4, 8, 11], [], [])], []⟩

noncomputable def impl_dualTable.bd : Code := bodyOf Go.Proofs.Try.f31

noncomputable def impl_dualTable.fin {ρ : Type} (N : Nat) (K : AV → Heap → Option ρ) (gv0 : Nat → Int) : XE → St → Option ρ := finK (E27 N) impl_dualTable.kp.fins Go.Proofs.Try.f31 [⟨false, .flat 512 (.ints .u8 gv0)⟩] K

noncomputable def impl_dualTable.k0 {ρ : Type} (N : Nat) (K : AV → Heap → Option ρ) (gv0 : Nat → Int) : XE → St → Option ρ := (blockK impl_dualTable.kp 1 0 (seqK (xcode (E27 N) ents impl_dualTable.kp 1 N (cB (cB (cB impl_dualTable.bd))) 0) (impl_dualTable.fin N K gv0)))

theorem impl_dualTable.k0_mix {ρ : Type} (N : Nat) (K : AV → Heap → Option ρ) (gv0 : Nat → Int) : mixK (impl_dualTable.fin N K gv0 .ret) (impl_dualTable.k0 N K gv0) = (impl_dualTable.k0 N K gv0) := by
  funext e s; cases e <;> kernel_rfl

noncomputable def impl_dualTable.st0 (gv0 : Nat → Int) (x1 : Int) (gv2 : Nat → Int) : St := ⟨sl 36 [(0, .sptr [(0, 512)]), (2, .sptr [(1, 512)]), (3, .sptr [(2, 512)]), (8, .int .i64 (x1))], [⟨false, .flat 512 (.ints .u8 gv0)⟩, ⟨true, .flat 512 (.ints .u8 (fun _ => 0))⟩, ⟨true, .flat 512 (.ints .u8 gv2)⟩]⟩

noncomputable def impl_dualTable.sx0_0 (gv0 : Nat → Int) (ov9 : Nat → Int) : St := ⟨sl 36 [(2, .sptr [(1, 512)]), (3, .sptr [(2, 512)])], [⟨false, .flat 512 (.ints .u8 gv0)⟩, ⟨true, .flat 512 (.ints .u8 (fun _ => 0))⟩, ⟨true, .flat 512 (.ints .u8 ov9)⟩]⟩

noncomputable def impl_dualTable.k1g {ρ : Type} (N : Nat) (L0 : St → Option ρ) (kv : XE → St → Option ρ) : XE → St → Option ρ := (blockK impl_dualTable.kp 1 2 (blockK impl_dualTable.kp 1 1 (seqK (xcode (E27 N) ents impl_dualTable.kp 1 N (cB (cB (cB (cL (cK (cB (cA (cB (cB impl_dualTable.bd))))))))) 0) (roundK impl_dualTable.kp 1 0 L0 kv))))

theorem impl_dualTable.k1_mix {ρ : Type} (N : Nat) (K : AV → Heap → Option ρ) (L0 : St → Option ρ) (gv0 : Nat → Int) : mixK (impl_dualTable.fin N K gv0 .ret) (impl_dualTable.k1g N L0 (impl_dualTable.k0 N K gv0)) = (impl_dualTable.k1g N L0 (impl_dualTable.k0 N K gv0)) := by
  funext e s; cases e <;> kernel_rfl

noncomputable def impl_dualTable.st1 (gv0 : Nat → Int) (x1 : Int) (x3 : Int) (gv4 : Nat → Int) : St := ⟨sl 36 [(0, .sptr [(0, 512)]), (2, .sptr [(1, 512)]), (3, .sptr [(2, 512)]), (4, .int .i64 (x1)), (8, .int .i64 (x1)), (11, .int .i64 (x3))], [⟨false, .flat 512 (.ints .u8 gv0)⟩, ⟨true, .flat 512 (.ints .u8 (fun _ => 0))⟩, ⟨true, .flat 512 (.ints .u8 gv4)⟩]⟩

noncomputable def impl_dualTable.sx1_0 (gv0 : Nat → Int) (x1 : Int) (ov8 : Nat → Int) : St := ⟨sl 36 [(0, .sptr [(0, 512)]), (2, .sptr [(1, 512)]), (3, .sptr [(2, 512)]), (8, .int .i64 (x1))], [⟨false, .flat 512 (.ints .u8 gv0)⟩, ⟨true, .flat 512 (.ints .u8 (fun _ => 0))⟩, ⟨true, .flat 512 (.ints .u8 ov8)⟩]⟩

noncomputable def impl_dualTable.k2g {ρ : Type} (N : Nat) (L1 : St → Option ρ) (kv : XE → St → Option ρ) : XE → St → Option ρ := (blockK impl_dualTable.kp 1 4 (blockK impl_dualTable.kp 1 3 (seqK (xcode (E27 N) ents impl_dualTable.kp 1 N (cB (cB (cB (cL (cK (cB (cB (cK (cA (cB (cB (cL (cK (cB (cA (cB (cB impl_dualTable.bd))))))))))))))))) 2) (roundK impl_dualTable.kp 1 2 L1 kv))))

theorem impl_dualTable.k2_mix {ρ : Type} (N : Nat) (K : AV → Heap → Option ρ) (L0 : St → Option ρ) (L1 : St → Option ρ) (gv0 : Nat → Int) : mixK (impl_dualTable.fin N K gv0 .ret) (impl_dualTable.k2g N L1 (impl_dualTable.k1g N L0 (impl_dualTable.k0 N K gv0))) = (impl_dualTable.k2g N L1 (impl_dualTable.k1g N L0 (impl_dualTable.k0 N K gv0))) := by
  funext e s; cases e <;> kernel_rfl

noncomputable def impl_dualTable.st2 (gv0 : Nat → Int) (x1 : Int) (x3 : Int) (x5 : Int) (gv6 : Nat → Int) : St := ⟨sl 36 [(0, .sptr [(0, 512)]), (2, .sptr [(1, 512)]), (3, .sptr [(2, 512)]), (4, .int .i64 (x1)), (5, .int .i64 (x3)), (8, .int .i64 (x1)), (11, .int .i64 (x3)), (14, .int .i64 (x5))], [⟨false, .flat 512 (.ints .u8 gv0)⟩, ⟨true, .flat 512 (.ints .u8 (fun _ => 0))⟩, ⟨true, .flat 512 (.ints .u8 gv6)⟩]⟩

noncomputable def impl_dualTable.sx2_0 (gv0 : Nat → Int) (x1 : Int) (x3 : Int) (ov7 : Nat → Int) : St := ⟨sl 36 [(0, .sptr [(0, 512)]), (2, .sptr [(1, 512)]), (3, .sptr [(2, 512)]), (4, .int .i64 (x1)), (8, .int .i64 (x1)), (11, .int .i64 (x3))], [⟨false, .flat 512 (.ints .u8 gv0)⟩, ⟨true, .flat 512 (.ints .u8 (fun _ => 0))⟩, ⟨true, .flat 512 (.ints .u8 ov7)⟩]⟩

theorem impl_dualTable.b2_gen {ρ : Type} (N : Nat) (K : AV → Heap → Option ρ) (L2 : St → Option ρ) (kv : XE → St → Option ρ) (gv0 : Nat → Int) (x1 : Int) (x3 : Int) (x5 : Int) (gv6 : Nat → Int) :
    xcode (E27 N) ents impl_dualTable.kp 1 N (cL (cK (cB (cB (cK (cA (cB (cB (cL (cK (cB (cB (cK (cA (cB (cB (cL (cK (cB (cA (cB (cB impl_dualTable.bd)))))))))))))))))))))) 4 (impl_dualTable.st2 gv0 x1 x3 x5 gv6) (roundK impl_dualTable.kp 1 4 L2 (mixK (impl_dualTable.fin N K gv0 .ret) kv)) = (impl_dualTable.b2 N (fun d0 => K (.agg [⟨.u8, 512, d0⟩]) [⟨false, .flat 512 (.ints .u8 gv0)⟩]) (fun x5 gv6 => L2 (impl_dualTable.st2 gv0 x1 x3 x5 gv6)) (fun ov7 => kv (.exit 4) (impl_dualTable.sx2_0 gv0 x1 x3 ov7)) gv0 x1 x3 x5 gv6) := by kernel_rfl

theorem impl_dualTable.b2_eq {ρ : Type} (N : Nat) (K : AV → Heap → Option ρ) (L0 : St → Option ρ) (L1 : St → Option ρ) (L2 : St → Option ρ) (gv0 : Nat → Int) (x1 : Int) (x3 : Int) (x5 : Int) (gv6 : Nat → Int) :
    xcode (E27 N) ents impl_dualTable.kp 1 N (cL (cK (cB (cB (cK (cA (cB (cB (cL (cK (cB (cB (cK (cA (cB (cB (cL (cK (cB (cA (cB (cB impl_dualTable.bd)))))))))))))))))))))) 4 (impl_dualTable.st2 gv0 x1 x3 x5 gv6) (roundK impl_dualTable.kp 1 4 L2 (impl_dualTable.k2g N L1 (impl_dualTable.k1g N L0 (impl_dualTable.k0 N K gv0)))) = (impl_dualTable.b2 N (fun d0 => K (.agg [⟨.u8, 512, d0⟩]) [⟨false, .flat 512 (.ints .u8 gv0)⟩]) (fun x5 gv6 => L2 (impl_dualTable.st2 gv0 x1 x3 x5 gv6)) (fun ov7 => (impl_dualTable.k2g N L1 (impl_dualTable.k1g N L0 (impl_dualTable.k0 N K gv0))) (.exit 4) (impl_dualTable.sx2_0 gv0 x1 x3 ov7)) gv0 x1 x3 x5 gv6) := by
  have h := impl_dualTable.b2_gen N K L2 (impl_dualTable.k2g N L1 (impl_dualTable.k1g N L0 (impl_dualTable.k0 N K gv0))) gv0 x1 x3 x5 gv6
  rw [impl_dualTable.k2_mix] at h
  exact h

theorem impl_dualTable.a2_0_gen {ρ : Type} (N : Nat) (K : AV → Heap → Option ρ) (L1 : St → Option ρ) (kv : XE → St → Option ρ) (gv0 : Nat → Int) (x1 : Int) (x3 : Int) (ov7 : Nat → Int) :
    (impl_dualTable.k2g N L1 (mixK (impl_dualTable.fin N K gv0 .ret) kv)) (.exit 4) (impl_dualTable.sx2_0 gv0 x1 x3 ov7) = (impl_dualTable.a2_0 N (fun d0 => K (.agg [⟨.u8, 512, d0⟩]) [⟨false, .flat 512 (.ints .u8 gv0)⟩]) (fun x3 gv4 => L1 (impl_dualTable.st1 gv0 x1 x3 gv4)) (fun ov8 => kv (.exit 2) (impl_dualTable.sx1_0 gv0 x1 ov8)) x3 ov7) := by kernel_rfl

theorem impl_dualTable.a2_0_eq {ρ : Type} (N : Nat) (K : AV → Heap → Option ρ) (L0 : St → Option ρ) (L1 : St → Option ρ) (gv0 : Nat → Int) (x1 : Int) (x3 : Int) (ov7 : Nat → Int) :
    (impl_dualTable.k2g N L1 (impl_dualTable.k1g N L0 (impl_dualTable.k0 N K gv0))) (.exit 4) (impl_dualTable.sx2_0 gv0 x1 x3 ov7) = (impl_dualTable.a2_0 N (fun d0 => K (.agg [⟨.u8, 512, d0⟩]) [⟨false, .flat 512 (.ints .u8 gv0)⟩]) (fun x3 gv4 => L1 (impl_dualTable.st1 gv0 x1 x3 gv4)) (fun ov8 => (impl_dualTable.k1g N L0 (impl_dualTable.k0 N K gv0)) (.exit 2) (impl_dualTable.sx1_0 gv0 x1 ov8)) x3 ov7) := by
  have h := impl_dualTable.a2_0_gen N K L1 (impl_dualTable.k1g N L0 (impl_dualTable.k0 N K gv0)) gv0 x1 x3 ov7
  rw [impl_dualTable.k1_mix] at h
  exact h

theorem impl_dualTable.b1_gen {ρ : Type} (N : Nat) (K : AV → Heap → Option ρ) (L1 : St → Option ρ) (kv : XE → St → Option ρ) (gv0 : Nat → Int) (x1 : Int) (x3 : Int) (gv4 : Nat → Int) :
    xcode (E27 N) ents impl_dualTable.kp 1 N (cL (cK (cB (cB (cK (cA (cB (cB (cL (cK (cB (cA (cB (cB impl_dualTable.bd)))))))))))))) 2 (impl_dualTable.st1 gv0 x1 x3 gv4) (roundK impl_dualTable.kp 1 2 L1 (mixK (impl_dualTable.fin N K gv0 .ret) kv)) = (impl_dualTable.b1 N (fun d0 => K (.agg [⟨.u8, 512, d0⟩]) [⟨false, .flat 512 (.ints .u8 gv0)⟩]) (fun x5 gv6 => xloop (xcode (E27 N) ents impl_dualTable.kp 1 N (cL (cK (cB (cB (cK (cA (cB (cB (cL (cK (cB (cB (cK (cA (cB (cB (cL (cK (cB (cA (cB (cB impl_dualTable.bd)))))))))))))))))))))) 4) impl_dualTable.kp 1 4 N (impl_dualTable.st2 gv0 x1 x3 x5 gv6) (impl_dualTable.k2g N L1 (mixK (impl_dualTable.fin N K gv0 .ret) kv))) (fun x3 gv4 => L1 (impl_dualTable.st1 gv0 x1 x3 gv4)) (fun ov8 => kv (.exit 2) (impl_dualTable.sx1_0 gv0 x1 ov8)) x3 gv4) := by kernel_rfl

theorem impl_dualTable.b1_eq {ρ : Type} (N : Nat) (K : AV → Heap → Option ρ) (L0 : St → Option ρ) (L1 : St → Option ρ) (gv0 : Nat → Int) (x1 : Int) (x3 : Int) (gv4 : Nat → Int) :
    xcode (E27 N) ents impl_dualTable.kp 1 N (cL (cK (cB (cB (cK (cA (cB (cB (cL (cK (cB (cA (cB (cB impl_dualTable.bd)))))))))))))) 2 (impl_dualTable.st1 gv0 x1 x3 gv4) (roundK impl_dualTable.kp 1 2 L1 (impl_dualTable.k1g N L0 (impl_dualTable.k0 N K gv0))) = (impl_dualTable.b1 N (fun d0 => K (.agg [⟨.u8, 512, d0⟩]) [⟨false, .flat 512 (.ints .u8 gv0)⟩]) (fun x5 gv6 => xloop (xcode (E27 N) ents impl_dualTable.kp 1 N (cL (cK (cB (cB (cK (cA (cB (cB (cL (cK (cB (cB (cK (cA (cB (cB (cL (cK (cB (cA (cB (cB impl_dualTable.bd)))))))))))))))))))))) 4) impl_dualTable.kp 1 4 N (impl_dualTable.st2 gv0 x1 x3 x5 gv6) (impl_dualTable.k2g N L1 (impl_dualTable.k1g N L0 (impl_dualTable.k0 N K gv0)))) (fun x3 gv4 => L1 (impl_dualTable.st1 gv0 x1 x3 gv4)) (fun ov8 => (impl_dualTable.k1g N L0 (impl_dualTable.k0 N K gv0)) (.exit 2) (impl_dualTable.sx1_0 gv0 x1 ov8)) x3 gv4) := by
  have h := impl_dualTable.b1_gen N K L1 (impl_dualTable.k1g N L0 (impl_dualTable.k0 N K gv0)) gv0 x1 x3 gv4
  rw [impl_dualTable.k1_mix] at h
  exact h

theorem impl_dualTable.a1_0_gen {ρ : Type} (N : Nat) (K : AV → Heap → Option ρ) (L0 : St → Option ρ) (kv : XE → St → Option ρ) (gv0 : Nat → Int) (x1 : Int) (ov8 : Nat → Int) :
    (impl_dualTable.k1g N L0 (mixK (impl_dualTable.fin N K gv0 .ret) kv)) (.exit 2) (impl_dualTable.sx1_0 gv0 x1 ov8) = (impl_dualTable.a1_0 N (fun d0 => K (.agg [⟨.u8, 512, d0⟩]) [⟨false, .flat 512 (.ints .u8 gv0)⟩]) (fun x1 gv2 => L0 (impl_dualTable.st0 gv0 x1 gv2)) (fun ov9 => kv (.exit 0) (impl_dualTable.sx0_0 gv0 ov9)) x1 ov8) := by kernel_rfl

theorem impl_dualTable.a1_0_eq {ρ : Type} (N : Nat) (K : AV → Heap → Option ρ) (L0 : St → Option ρ) (gv0 : Nat → Int) (x1 : Int) (ov8 : Nat → Int) :
    (impl_dualTable.k1g N L0 (impl_dualTable.k0 N K gv0)) (.exit 2) (impl_dualTable.sx1_0 gv0 x1 ov8) = (impl_dualTable.a1_0 N (fun d0 => K (.agg [⟨.u8, 512, d0⟩]) [⟨false, .flat 512 (.ints .u8 gv0)⟩]) (fun x1 gv2 => L0 (impl_dualTable.st0 gv0 x1 gv2)) (fun ov9 => (impl_dualTable.k0 N K gv0) (.exit 0) (impl_dualTable.sx0_0 gv0 ov9)) x1 ov8) := by
  have h := impl_dualTable.a1_0_gen N K L0 (impl_dualTable.k0 N K gv0) gv0 x1 ov8
  rw [impl_dualTable.k0_mix] at h
  exact h

theorem impl_dualTable.b0_gen {ρ : Type} (N : Nat) (K : AV → Heap → Option ρ) (L0 : St → Option ρ) (kv : XE → St → Option ρ) (gv0 : Nat → Int) (x1 : Int) (gv2 : Nat → Int) :
    xcode (E27 N) ents impl_dualTable.kp 1 N (cL (cK (cB (cA (cB (cB impl_dualTable.bd)))))) 0 (impl_dualTable.st0 gv0 x1 gv2) (roundK impl_dualTable.kp 1 0 L0 (mixK (impl_dualTable.fin N K gv0 .ret) kv)) = (impl_dualTable.b0 N (fun d0 => K (.agg [⟨.u8, 512, d0⟩]) [⟨false, .flat 512 (.ints .u8 gv0)⟩]) (fun x3 gv4 => xloop (xcode (E27 N) ents impl_dualTable.kp 1 N (cL (cK (cB (cB (cK (cA (cB (cB (cL (cK (cB (cA (cB (cB impl_dualTable.bd)))))))))))))) 2) impl_dualTable.kp 1 2 N (impl_dualTable.st1 gv0 x1 x3 gv4) (impl_dualTable.k1g N L0 (mixK (impl_dualTable.fin N K gv0 .ret) kv))) (fun x1 gv2 => L0 (impl_dualTable.st0 gv0 x1 gv2)) (fun ov9 => kv (.exit 0) (impl_dualTable.sx0_0 gv0 ov9)) x1 gv2) := by kernel_rfl

theorem impl_dualTable.b0_eq {ρ : Type} (N : Nat) (K : AV → Heap → Option ρ) (L0 : St → Option ρ) (gv0 : Nat → Int) (x1 : Int) (gv2 : Nat → Int) :
    xcode (E27 N) ents impl_dualTable.kp 1 N (cL (cK (cB (cA (cB (cB impl_dualTable.bd)))))) 0 (impl_dualTable.st0 gv0 x1 gv2) (roundK impl_dualTable.kp 1 0 L0 (impl_dualTable.k0 N K gv0)) = (impl_dualTable.b0 N (fun d0 => K (.agg [⟨.u8, 512, d0⟩]) [⟨false, .flat 512 (.ints .u8 gv0)⟩]) (fun x3 gv4 => xloop (xcode (E27 N) ents impl_dualTable.kp 1 N (cL (cK (cB (cB (cK (cA (cB (cB (cL (cK (cB (cA (cB (cB impl_dualTable.bd)))))))))))))) 2) impl_dualTable.kp 1 2 N (impl_dualTable.st1 gv0 x1 x3 gv4) (impl_dualTable.k1g N L0 (impl_dualTable.k0 N K gv0))) (fun x1 gv2 => L0 (impl_dualTable.st0 gv0 x1 gv2)) (fun ov9 => (impl_dualTable.k0 N K gv0) (.exit 0) (impl_dualTable.sx0_0 gv0 ov9)) x1 gv2) := by
  have h := impl_dualTable.b0_gen N K L0 (impl_dualTable.k0 N K gv0) gv0 x1 gv2
  rw [impl_dualTable.k0_mix] at h
  exact h

theorem impl_dualTable.a0_0_eq {ρ : Type} (N : Nat) (K : AV → Heap → Option ρ) (gv0 : Nat → Int) (ov9 : Nat → Int) :
    (impl_dualTable.k0 N K gv0) (.exit 0) (impl_dualTable.sx0_0 gv0 ov9) = (impl_dualTable.a0_0 N (fun d0 => K (.agg [⟨.u8, 512, d0⟩]) [⟨false, .flat 512 (.ints .u8 gv0)⟩]) ov9) := by kernel_rfl

theorem impl_dualTable.l2_eq {ρ : Type} (N : Nat) (K : AV → Heap → Option ρ) (L0 : St → Option ρ) (L1 : St → Option ρ) (gv0 : Nat → Int) (x1 : Int) (x3 : Int) :
    ∀ (m : Nat) (x5 : Int) (gv6 : Nat → Int), xloop (xcode (E27 N) ents impl_dualTable.kp 1 N (cL (cK (cB (cB (cK (cA (cB (cB (cL (cK (cB (cB (cK (cA (cB (cB (cL (cK (cB (cA (cB (cB impl_dualTable.bd)))))))))))))))))))))) 4) impl_dualTable.kp 1 4 m (impl_dualTable.st2 gv0 x1 x3 x5 gv6) (impl_dualTable.k2g N L1 (impl_dualTable.k1g N L0 (impl_dualTable.k0 N K gv0))) = (impl_dualTable.l2 N (fun d0 => K (.agg [⟨.u8, 512, d0⟩]) [⟨false, .flat 512 (.ints .u8 gv0)⟩]) gv0 x1 x3 (fun ov7 => (impl_dualTable.k2g N L1 (impl_dualTable.k1g N L0 (impl_dualTable.k0 N K gv0))) (.exit 4) (impl_dualTable.sx2_0 gv0 x1 x3 ov7)) m x5 gv6) := by
  intro m
  induction m with
  | zero => intros; rfl
  | succ m ih =>
    intro x5 gv6
    refine (impl_dualTable.b2_eq N K L0 L1 (fun s => xloop (xcode (E27 N) ents impl_dualTable.kp 1 N (cL (cK (cB (cB (cK (cA (cB (cB (cL (cK (cB (cB (cK (cA (cB (cB (cL (cK (cB (cA (cB (cB impl_dualTable.bd)))))))))))))))))))))) 4) impl_dualTable.kp 1 4 m s (impl_dualTable.k2g N L1 (impl_dualTable.k1g N L0 (impl_dualTable.k0 N K gv0)))) gv0 x1 x3 x5 gv6).trans ?_
    simp only [ih]
    kernel_rfl

theorem impl_dualTable.l1_eq {ρ : Type} (N : Nat) (K : AV → Heap → Option ρ) (L0 : St → Option ρ) (gv0 : Nat → Int) (x1 : Int) :
    ∀ (m : Nat) (x3 : Int) (gv4 : Nat → Int), xloop (xcode (E27 N) ents impl_dualTable.kp 1 N (cL (cK (cB (cB (cK (cA (cB (cB (cL (cK (cB (cA (cB (cB impl_dualTable.bd)))))))))))))) 2) impl_dualTable.kp 1 2 m (impl_dualTable.st1 gv0 x1 x3 gv4) (impl_dualTable.k1g N L0 (impl_dualTable.k0 N K gv0)) = (impl_dualTable.l1 N (fun d0 => K (.agg [⟨.u8, 512, d0⟩]) [⟨false, .flat 512 (.ints .u8 gv0)⟩]) gv0 x1 (fun ov8 => (impl_dualTable.k1g N L0 (impl_dualTable.k0 N K gv0)) (.exit 2) (impl_dualTable.sx1_0 gv0 x1 ov8)) m x3 gv4) := by
  intro m
  induction m with
  | zero => intros; rfl
  | succ m ih =>
    intro x3 gv4
    refine (impl_dualTable.b1_eq N K L0 (fun s => xloop (xcode (E27 N) ents impl_dualTable.kp 1 N (cL (cK (cB (cB (cK (cA (cB (cB (cL (cK (cB (cA (cB (cB impl_dualTable.bd)))))))))))))) 2) impl_dualTable.kp 1 2 m s (impl_dualTable.k1g N L0 (impl_dualTable.k0 N K gv0))) gv0 x1 x3 gv4).trans ?_
    simp only [ih, impl_dualTable.l2_eq, impl_dualTable.a2_0_eq]
    kernel_rfl

theorem impl_dualTable.l0_eq {ρ : Type} (N : Nat) (K : AV → Heap → Option ρ) (gv0 : Nat → Int) :
    ∀ (m : Nat) (x1 : Int) (gv2 : Nat → Int), xloop (xcode (E27 N) ents impl_dualTable.kp 1 N (cL (cK (cB (cA (cB (cB impl_dualTable.bd)))))) 0) impl_dualTable.kp 1 0 m (impl_dualTable.st0 gv0 x1 gv2) (impl_dualTable.k0 N K gv0) = (impl_dualTable.l0 N (fun d0 => K (.agg [⟨.u8, 512, d0⟩]) [⟨false, .flat 512 (.ints .u8 gv0)⟩]) gv0 (fun ov9 => (impl_dualTable.k0 N K gv0) (.exit 0) (impl_dualTable.sx0_0 gv0 ov9)) m x1 gv2) := by
  intro m
  induction m with
  | zero => intros; rfl
  | succ m ih =>
    intro x1 gv2
    refine (impl_dualTable.b0_eq N K (fun s => xloop (xcode (E27 N) ents impl_dualTable.kp 1 N (cL (cK (cB (cA (cB (cB impl_dualTable.bd)))))) 0) impl_dualTable.kp 1 0 m s (impl_dualTable.k0 N K gv0)) gv0 x1 gv2).trans ?_
    simp only [ih, impl_dualTable.l1_eq, impl_dualTable.a1_0_eq]
    kernel_rfl

theorem impl_dualTable.s_eq {ρ : Type} (N : Nat) (K : AV → Heap → Option ρ) (gv0 : Nat → Int) :
    xbody (E27 N) ents impl_dualTable.kp N Go.Proofs.Try.f31 impl_dualTable.bd [.sptr [(0, 512)]] [⟨false, .flat 512 (.ints .u8 gv0)⟩] K = (impl_dualTable.s N (fun d0 => K (.agg [⟨.u8, 512, d0⟩]) [⟨false, .flat 512 (.ints .u8 gv0)⟩]) (fun x1 gv2 => xloop (xcode (E27 N) ents impl_dualTable.kp 1 N (cL (cK (cB (cA (cB (cB impl_dualTable.bd)))))) 0) impl_dualTable.kp 1 0 N (impl_dualTable.st0 gv0 x1 gv2) (impl_dualTable.k0 N K gv0))) := by kernel_rfl

theorem impl_dualTable.eq {ρ : Type} (N : Nat) (K : AV → Heap → Option ρ) (gv0 : Nat → Int) :
    xbody (E27 N) ents impl_dualTable.kp N Go.Proofs.Try.f31 impl_dualTable.bd [.sptr [(0, 512)]] [⟨false, .flat 512 (.ints .u8 gv0)⟩] K = (impl_dualTable N (fun d0 => K (.agg [⟨.u8, 512, d0⟩]) [⟨false, .flat 512 (.ints .u8 gv0)⟩]) gv0) := by
  refine (impl_dualTable.s_eq N K gv0).trans ?_
  simp only [impl_dualTable.l0_eq, impl_dualTable.a0_0_eq]
  kernel_rfl

noncomputable def impl_dualTable.en (N : Nat) (ρ : Type) : List AV → Heap → (AV → Heap → Option ρ) → Option ρ
  | [.sptr [(0, 512)]], [⟨false, .flat 512 (.ints .u8 gv0)⟩], K => (impl_dualTable N (fun d0 => K (.agg [⟨.u8, 512, d0⟩]) [⟨false, .flat 512 (.ints .u8 gv0)⟩]) gv0)
  | _, _, _ => none

theorem impl_dualTable.en_ok (N : Nat) (hE : EnvOk (E27 N) ents) (ρ : Type) (args : List AV) (sh : Heap) (K : AV → Heap → Option ρ) (r : ρ) (h : impl_dualTable.en N ρ args sh K = some r) : ∃ v sh', K v sh' = some r ∧ FnOk (E27 N).P 31 args sh v sh' := by
  unfold impl_dualTable.en at h
  split at h
  · exact fn_ok hE (kp := impl_dualTable.kp) (N := N) Go.Proofs.Try.func31 (c := impl_dualTable.bd) (by kernel_rfl) ((impl_dualTable.eq N _ _).trans h)
  · cases h

noncomputable def E28 (N : Nat) : Env := (E27 N).add 31 (impl_dualTable.en N)

theorem E28_ok (N : Nat) : EnvOk (E28 N) ents := Env.add_ok (E27_ok N) (impl_dualTable.en_ok N (E27_ok N))

noncomputable def impl_transposed.kp : Keeps := ⟨[(0, [0, 2, 3, 7], [], []), (2, [0, 2, 3, 4, 7, 10], [], [])], [(0, [2, 3], [], []), (2, [0, 2, 3, 7], [], [])], []⟩

noncomputable def impl_transposed.bd : Code := bodyOf Go.Proofs.Try.f32

noncomputable def impl_transposed.fin {ρ : Type} (N : Nat) (K : AV → Heap → Option ρ) (gv0 : Nat → Int) : XE → St → Option ρ := finK (E28 N) impl_transposed.kp.fins Go.Proofs.Try.f32 [⟨false, .flat 64 (.ints .u8 gv0)⟩] K

noncomputable def impl_transposed.k0 {ρ : Type} (N : Nat) (K : AV → Heap → Option ρ) (gv0 : Nat → Int) : XE → St → Option ρ := (blockK impl_transposed.kp 1 0 (seqK (xcode (E28 N) ents impl_transposed.kp 1 N (cB (cB (cB impl_transposed.bd))) 0) (impl_transposed.fin N K gv0)))

theorem impl_transposed.k0_mix {ρ : Type} (N : Nat) (K : AV → Heap → Option ρ) (gv0 : Nat → Int) : mixK (impl_transposed.fin N K gv0 .ret) (impl_transposed.k0 N K gv0) = (impl_transposed.k0 N K gv0) := by
  funext e s; cases e <;> kernel_rfl

noncomputable def impl_transposed.st0 (gv0 : Nat → Int) (x1 : Int) (gv2 : Nat → Int) : St := ⟨sl 27 [(0, .sptr [(0, 64)]), (2, .sptr [(1, 64)]), (3, .sptr [(2, 64)]), (7, .int .i64 (x1))], [⟨false, .flat 64 (.ints .u8 gv0)⟩, ⟨true, .flat 64 (.ints .u8 (fun _ => 0))⟩, ⟨true, .flat 64 (.ints .u8 gv2)⟩]⟩

noncomputable def impl_transposed.sx0_0 (gv0 : Nat → Int) (ov6 : Nat → Int) : St := ⟨sl 27 [(2, .sptr [(1, 64)]), (3, .sptr [(2, 64)])], [⟨false, .flat 64 (.ints .u8 gv0)⟩, ⟨true, .flat 64 (.ints .u8 (fun _ => 0))⟩, ⟨true, .flat 64 (.ints .u8 ov6)⟩]⟩

noncomputable def impl_transposed.k1g {ρ : Type} (N : Nat) (L0 : St → Option ρ) (kv : XE → St → Option ρ) : XE → St → Option ρ := (blockK impl_transposed.kp 1 2 (blockK impl_transposed.kp 1 1 (seqK (xcode (E28 N) ents impl_transposed.kp 1 N (cB (cB (cB (cL (cK (cB (cA (cB (cB impl_transposed.bd))))))))) 0) (roundK impl_transposed.kp 1 0 L0 kv))))

theorem impl_transposed.k1_mix {ρ : Type} (N : Nat) (K : AV → Heap → Option ρ) (L0 : St → Option ρ) (gv0 : Nat → Int) : mixK (impl_transposed.fin N K gv0 .ret) (impl_transposed.k1g N L0 (impl_transposed.k0 N K gv0)) = (impl_transposed.k1g N L0 (impl_transposed.k0 N K gv0)) := by
  funext e s; cases e <;> kernel_rfl

noncomputable def impl_transposed.st1 (gv0 : Nat → Int) (x1 : Int) (x3 : Int) (gv4 : Nat → Int) : St := ⟨sl 27 [(0, .sptr [(0, 64)]), (2, .sptr [(1, 64)]), (3, .sptr [(2, 64)]), (4, .int .i64 (x1)), (7, .int .i64 (x1)), (10, .int .i64 (x3))], [⟨false, .flat 64 (.ints .u8 gv0)⟩, ⟨true, .flat 64 (.ints .u8 (fun _ => 0))⟩, ⟨true, .flat 64 (.ints .u8 gv4)⟩]⟩

noncomputable def impl_transposed.sx1_0 (gv0 : Nat → Int) (x1 : Int) (ov5 : Nat → Int) : St := ⟨sl 27 [(0, .sptr [(0, 64)]), (2, .sptr [(1, 64)]), (3, .sptr [(2, 64)]), (7, .int .i64 (x1))], [⟨false, .flat 64 (.ints .u8 gv0)⟩, ⟨true, .flat 64 (.ints .u8 (fun _ => 0))⟩, ⟨true, .flat 64 (.ints .u8 ov5)⟩]⟩

theorem impl_transposed.b1_gen {ρ : Type} (N : Nat) (K : AV → Heap → Option ρ) (L1 : St → Option ρ) (kv : XE → St → Option ρ) (gv0 : Nat → Int) (x1 : Int) (x3 : Int) (gv4 : Nat → Int) :
    xcode (E28 N) ents impl_transposed.kp 1 N (cL (cK (cB (cB (cK (cA (cB (cB (cL (cK (cB (cA (cB (cB impl_transposed.bd)))))))))))))) 2 (impl_transposed.st1 gv0 x1 x3 gv4) (roundK impl_transposed.kp 1 2 L1 (mixK (impl_transposed.fin N K gv0 .ret) kv)) = (impl_transposed.b1 N (fun d0 => K (.agg [⟨.u8, 64, d0⟩]) [⟨false, .flat 64 (.ints .u8 gv0)⟩]) (fun x3 gv4 => L1 (impl_transposed.st1 gv0 x1 x3 gv4)) (fun ov5 => kv (.exit 2) (impl_transposed.sx1_0 gv0 x1 ov5)) gv0 x1 x3 gv4) := by kernel_rfl

theorem impl_transposed.b1_eq {ρ : Type} (N : Nat) (K : AV → Heap → Option ρ) (L0 : St → Option ρ) (L1 : St → Option ρ) (gv0 : Nat → Int) (x1 : Int) (x3 : Int) (gv4 : Nat → Int) :
    xcode (E28 N) ents impl_transposed.kp 1 N (cL (cK (cB (cB (cK (cA (cB (cB (cL (cK (cB (cA (cB (cB impl_transposed.bd)))))))))))))) 2 (impl_transposed.st1 gv0 x1 x3 gv4) (roundK impl_transposed.kp 1 2 L1 (impl_transposed.k1g N L0 (impl_transposed.k0 N K gv0))) = (impl_transposed.b1 N (fun d0 => K (.agg [⟨.u8, 64, d0⟩]) [⟨false, .flat 64 (.ints .u8 gv0)⟩]) (fun x3 gv4 => L1 (impl_transposed.st1 gv0 x1 x3 gv4)) (fun ov5 => (impl_transposed.k1g N L0 (impl_transposed.k0 N K gv0)) (.exit 2) (impl_transposed.sx1_0 gv0 x1 ov5)) gv0 x1 x3 gv4) := by
  have h := impl_transposed.b1_gen N K L1 (impl_transposed.k1g N L0 (impl_transposed.k0 N K gv0)) gv0 x1 x3 gv4
  rw [impl_transposed.k1_mix] at h
  exact h

theorem impl_transposed.a1_0_gen {ρ : Type} (N : Nat) (K : AV → Heap → Option ρ) (L0 : St → Option ρ) (kv : XE → St → Option ρ) (gv0 : Nat → Int) (x1 : Int) (ov5 : Nat → Int) :
    (impl_transposed.k1g N L0 (mixK (impl_transposed.fin N K gv0 .ret) kv)) (.exit 2) (impl_transposed.sx1_0 gv0 x1 ov5) = (impl_transposed.a1_0 N (fun d0 => K (.agg [⟨.u8, 64, d0⟩]) [⟨false, .flat 64 (.ints .u8 gv0)⟩]) (fun x1 gv2 => L0 (impl_transposed.st0 gv0 x1 gv2)) (fun ov6 => kv (.exit 0) (impl_transposed.sx0_0 gv0 ov6)) x1 ov5) := by kernel_rfl

theorem impl_transposed.a1_0_eq {ρ : Type} (N : Nat) (K : AV → Heap → Option ρ) (L0 : St → Option ρ) (gv0 : Nat → Int) (x1 : Int) (ov5 : Nat → Int) :
    (impl_transposed.k1g N L0 (impl_transposed.k0 N K gv0)) (.exit 2) (impl_transposed.sx1_0 gv0 x1 ov5) = (impl_transposed.a1_0 N (fun d0 => K (.agg [⟨.u8, 64, d0⟩]) [⟨false, .flat 64 (.ints .u8 gv0)⟩]) (fun x1 gv2 => L0 (impl_transposed.st0 gv0 x1 gv2)) (fun ov6 => (impl_transposed.k0 N K gv0) (.exit 0) (impl_transposed.sx0_0 gv0 ov6)) x1 ov5) := by
  have h := impl_transposed.a1_0_gen N K L0 (impl_transposed.k0 N K gv0) gv0 x1 ov5
  rw [impl_transposed.k0_mix] at h
  exact h

theorem impl_transposed.b0_gen {ρ : Type} (N : Nat) (K : AV → Heap → Option ρ) (L0 : St → Option ρ) (kv : XE → St → Option ρ) (gv0 : Nat → Int) (x1 : Int) (gv2 : Nat → Int) :
    xcode (E28 N) ents impl_transposed.kp 1 N (cL (cK (cB (cA (cB (cB impl_transposed.bd)))))) 0 (impl_transposed.st0 gv0 x1 gv2) (roundK impl_transposed.kp 1 0 L0 (mixK (impl_transposed.fin N K gv0 .ret) kv)) = (impl_transposed.b0 N (fun d0 => K (.agg [⟨.u8, 64, d0⟩]) [⟨false, .flat 64 (.ints .u8 gv0)⟩]) (fun x3 gv4 => xloop (xcode (E28 N) ents impl_transposed.kp 1 N (cL (cK (cB (cB (cK (cA (cB (cB (cL (cK (cB (cA (cB (cB impl_transposed.bd)))))))))))))) 2) impl_transposed.kp 1 2 N (impl_transposed.st1 gv0 x1 x3 gv4) (impl_transposed.k1g N L0 (mixK (impl_transposed.fin N K gv0 .ret) kv))) (fun x1 gv2 => L0 (impl_transposed.st0 gv0 x1 gv2)) (fun ov6 => kv (.exit 0) (impl_transposed.sx0_0 gv0 ov6)) x1 gv2) := by kernel_rfl

theorem impl_transposed.b0_eq {ρ : Type} (N : Nat) (K : AV → Heap → Option ρ) (L0 : St → Option ρ) (gv0 : Nat → Int) (x1 : Int) (gv2 : Nat → Int) :
    xcode (E28 N) ents impl_transposed.kp 1 N (cL (cK (cB (cA (cB (cB impl_transposed.bd)))))) 0 (impl_transposed.st0 gv0 x1 gv2) (roundK impl_transposed.kp 1 0 L0 (impl_transposed.k0 N K gv0)) = (impl_transposed.b0 N (fun d0 => K (.agg [⟨.u8, 64, d0⟩]) [⟨false, .flat 64 (.ints .u8 gv0)⟩]) (fun x3 gv4 => xloop (xcode (E28 N) ents impl_transposed.kp 1 N (cL (cK (cB (cB (cK (cA (cB (cB (cL (cK (cB (cA (cB (cB impl_transposed.bd)))))))))))))) 2) impl_transposed.kp 1 2 N (impl_transposed.st1 gv0 x1 x3 gv4) (impl_transposed.k1g N L0 (impl_transposed.k0 N K gv0))) (fun x1 gv2 => L0 (impl_transposed.st0 gv0 x1 gv2)) (fun ov6 => (impl_transposed.k0 N K gv0) (.exit 0) (impl_transposed.sx0_0 gv0 ov6)) x1 gv2) := by
  have h := impl_transposed.b0_gen N K L0 (impl_transposed.k0 N K gv0) gv0 x1 gv2
  rw [impl_transposed.k0_mix] at h
  exact h

theorem impl_transposed.a0_0_eq {ρ : Type} (N : Nat) (K : AV → Heap → Option ρ) (gv0 : Nat → Int) (ov6 : Nat → Int) :
    (impl_transposed.k0 N K gv0) (.exit 0) (impl_transposed.sx0_0 gv0 ov6) = (impl_transposed.a0_0 N (fun d0 => K (.agg [⟨.u8, 64, d0⟩]) [⟨false, .flat 64 (.ints .u8 gv0)⟩]) ov6) := by kernel_rfl

theorem impl_transposed.l1_eq {ρ : Type} (N : Nat) (K : AV → Heap → Option ρ) (L0 : St → Option ρ) (gv0 : Nat → Int) (x1 : Int) :
    ∀ (m : Nat) (x3 : Int) (gv4 : Nat → Int), xloop (xcode (E28 N) ents impl_transposed.kp 1 N (cL (cK (cB (cB (cK (cA (cB (cB (cL (cK (cB (cA (cB (cB impl_transposed.bd)))))))))))))) 2) impl_transposed.kp 1 2 m (impl_transposed.st1 gv0 x1 x3 gv4) (impl_transposed.k1g N L0 (impl_transposed.k0 N K gv0)) = (impl_transposed.l1 N (fun d0 => K (.agg [⟨.u8, 64, d0⟩]) [⟨false, .flat 64 (.ints .u8 gv0)⟩]) gv0 x1 (fun ov5 => (impl_transposed.k1g N L0 (impl_transposed.k0 N K gv0)) (.exit 2) (impl_transposed.sx1_0 gv0 x1 ov5)) m x3 gv4) := by
  intro m
  induction m with
  | zero => intros; rfl
  | succ m ih =>
    intro x3 gv4
    refine (impl_transposed.b1_eq N K L0 (fun s => xloop (xcode (E28 N) ents impl_transposed.kp 1 N (cL (cK (cB (cB (cK (cA (cB (cB (cL (cK (cB (cA (cB (cB impl_transposed.bd)))))))))))))) 2) impl_transposed.kp 1 2 m s (impl_transposed.k1g N L0 (impl_transposed.k0 N K gv0))) gv0 x1 x3 gv4).trans ?_
    simp only [ih]
    kernel_rfl

theorem impl_transposed.l0_eq {ρ : Type} (N : Nat) (K : AV → Heap → Option ρ) (gv0 : Nat → Int) :
    ∀ (m : Nat) (x1 : Int) (gv2 : Nat → Int), xloop (xcode (E28 N) ents impl_transposed.kp 1 N (cL (cK (cB (cA (cB (cB impl_transposed.bd)))))) 0) impl_transposed.kp 1 0 m (impl_transposed.st0 gv0 x1 gv2) (impl_transposed.k0 N K gv0) = (impl_transposed.l0 N (fun d0 => K (.agg [⟨.u8, 64, d0⟩]) [⟨false, .flat 64 (.ints .u8 gv0)⟩]) gv0 (fun ov6 => (impl_transposed.k0 N K gv0) (.exit 0) (impl_transposed.sx0_0 gv0 ov6)) m x1 gv2) := by
  intro m
  induction m with
  | zero => intros; rfl
  | succ m ih =>
    intro x1 gv2
    refine (impl_transposed.b0_eq N K (fun s => xloop (xcode (E28 N) ents impl_transposed.kp 1 N (cL (cK (cB (cA (cB (cB impl_transposed.bd)))))) 0) impl_transposed.kp 1 0 m s (impl_transposed.k0 N K gv0)) gv0 x1 gv2).trans ?_
    simp only [ih, impl_transposed.l1_eq, impl_transposed.a1_0_eq]
    kernel_rfl

theorem impl_transposed.s_eq {ρ : Type} (N : Nat) (K : AV → Heap → Option ρ) (gv0 : Nat → Int) :
    xbody (E28 N) ents impl_transposed.kp N Go.Proofs.Try.f32 impl_transposed.bd [.sptr [(0, 64)]] [⟨false, .flat 64 (.ints .u8 gv0)⟩] K = (impl_transposed.s N (fun d0 => K (.agg [⟨.u8, 64, d0⟩]) [⟨false, .flat 64 (.ints .u8 gv0)⟩]) (fun x1 gv2 => xloop (xcode (E28 N) ents impl_transposed.kp 1 N (cL (cK (cB (cA (cB (cB impl_transposed.bd)))))) 0) impl_transposed.kp 1 0 N (impl_transposed.st0 gv0 x1 gv2) (impl_transposed.k0 N K gv0))) := by kernel_rfl

theorem impl_transposed.eq {ρ : Type} (N : Nat) (K : AV → Heap → Option ρ) (gv0 : Nat → Int) :
    xbody (E28 N) ents impl_transposed.kp N Go.Proofs.Try.f32 impl_transposed.bd [.sptr [(0, 64)]] [⟨false, .flat 64 (.ints .u8 gv0)⟩] K = (impl_transposed N (fun d0 => K (.agg [⟨.u8, 64, d0⟩]) [⟨false, .flat 64 (.ints .u8 gv0)⟩]) gv0) := by
  refine (impl_transposed.s_eq N K gv0).trans ?_
  simp only [impl_transposed.l0_eq, impl_transposed.a0_0_eq]
  kernel_rfl

noncomputable def impl_transposed.en (N : Nat) (ρ : Type) : List AV → Heap → (AV → Heap → Option ρ) → Option ρ
  | [.sptr [(0, 64)]], [⟨false, .flat 64 (.ints .u8 gv0)⟩], K => (impl_transposed N (fun d0 => K (.agg [⟨.u8, 64, d0⟩]) [⟨false, .flat 64 (.ints .u8 gv0)⟩]) gv0)
  | _, _, _ => none

theorem impl_transposed.en_ok (N : Nat) (hE : EnvOk (E28 N) ents) (ρ : Type) (args : List AV) (sh : Heap) (K : AV → Heap → Option ρ) (r : ρ) (h : impl_transposed.en N ρ args sh K = some r) : ∃ v sh', K v sh' = some r ∧ FnOk (E28 N).P 32 args sh v sh' := by
  unfold impl_transposed.en at h
  split at h
  · exact fn_ok hE (kp := impl_transposed.kp) (N := N) Go.Proofs.Try.func32 (c := impl_transposed.bd) (by kernel_rfl) ((impl_transposed.eq N _ _).trans h)
  · cases h

noncomputable def E29 (N : Nat) : Env := (E28 N).add 32 (impl_transposed.en N)

theorem E29_ok (N : Nat) : EnvOk (E29 N) ents := Env.add_ok (E28_ok N) (impl_transposed.en_ok N (E28_ok N))

noncomputable def impl_Hopf_dual.kp : Keeps := ⟨[], [], []⟩

noncomputable def impl_Hopf_dual.bd : Code := bodyOf Go.Proofs.Try.f17

noncomputable def impl_Hopf_dual.fin {ρ : Type} (N : Nat) (K : AV → Heap → Option ρ) (gv0 : Nat → Int) (gv1 : Nat → Int) : XE → St → Option ρ := finK (E29 N) impl_Hopf_dual.kp.fins Go.Proofs.Try.f17 [⟨false, .flat 2 (.ints .i64 gv0)⟩, ⟨false, .flat 1104 (.ints .u8 gv1)⟩] K

theorem impl_Hopf_dual.eq {ρ : Type} (N : Nat) (K : AV → Heap → Option ρ) (gv0 : Nat → Int) (gv1 : Nat → Int) :
    xbody (E29 N) ents impl_Hopf_dual.kp N Go.Proofs.Try.f17 impl_Hopf_dual.bd [.sptr [(0, 2), (1, 1104)]] [⟨false, .flat 2 (.ints .i64 gv0)⟩, ⟨false, .flat 1104 (.ints .u8 gv1)⟩] K = (impl_Hopf_dual N (fun d0 d1 => K (.agg [⟨.i64, 2, d0⟩, ⟨.u8, 1104, d1⟩]) [⟨false, .flat 2 (.ints .i64 gv0)⟩, ⟨false, .flat 1104 (.ints .u8 gv1)⟩]) gv0 gv1) := by kernel_rfl

noncomputable def impl_Hopf_dual.en (N : Nat) (ρ : Type) : List AV → Heap → (AV → Heap → Option ρ) → Option ρ
  | [.sptr [(0, 2), (1, 1104)]], [⟨false, .flat 2 (.ints .i64 gv0)⟩, ⟨false, .flat 1104 (.ints .u8 gv1)⟩], K => (impl_Hopf_dual N (fun d0 d1 => K (.agg [⟨.i64, 2, d0⟩, ⟨.u8, 1104, d1⟩]) [⟨false, .flat 2 (.ints .i64 gv0)⟩, ⟨false, .flat 1104 (.ints .u8 gv1)⟩]) gv0 gv1)
  | _, _, _ => none

theorem impl_Hopf_dual.en_ok (N : Nat) (hE : EnvOk (E29 N) ents) (ρ : Type) (args : List AV) (sh : Heap) (K : AV → Heap → Option ρ) (r : ρ) (h : impl_Hopf_dual.en N ρ args sh K = some r) : ∃ v sh', K v sh' = some r ∧ FnOk (E29 N).P 17 args sh v sh' := by
  unfold impl_Hopf_dual.en at h
  split at h
  · exact fn_ok hE (kp := impl_Hopf_dual.kp) (N := N) Go.Proofs.Try.func17 (c := impl_Hopf_dual.bd) (by kernel_rfl) ((impl_Hopf_dual.eq N _ _ _).trans h)
  · cases h

noncomputable def E30 (N : Nat) : Env := (E29 N).add 17 (impl_Hopf_dual.en N)

theorem E30_ok (N : Nat) : EnvOk (E30 N) ents := Env.add_ok (E29_ok N) (impl_Hopf_dual.en_ok N (E29_ok N))

noncomputable def impl_FunctionsHopf_sh.kp : Keeps := ⟨[], [], []⟩

noncomputable def impl_FunctionsHopf_sh.bd : Code := bodyOf Go.Proofs.Try.f7

noncomputable def impl_FunctionsHopf_sh.fin {ρ : Type} (N : Nat) (K : AV → Heap → Option ρ) (gv3 : Nat) (gv4 : Nat) (gv5 : Nat → Nat) (gv6 : Nat → Nat) (gv7 : Nat → Nat) (gv8 : Nat → Int) : XE → St → Option ρ := finK (E30 N) impl_FunctionsHopf_sh.kp.fins Go.Proofs.Try.f7 [⟨false, .hdr 1 gv3 gv4 gv5 gv6 (some gv7)⟩, ⟨false, .flat 0 (.ints .i64 gv8)⟩] K

theorem impl_FunctionsHopf_sh.eq {ρ : Type} (N : Nat) (K : AV → Heap → Option ρ) (p0 : Int) (table1 : Nat) (table2 : Nat) (gv3 : Nat) (gv4 : Nat) (gv5 : Nat → Nat) (gv6 : Nat → Nat) (gv7 : Nat → Nat) (gv8 : Nat → Int) :
    xbody (E30 N) ents impl_FunctionsHopf_sh.kp N Go.Proofs.Try.f7 impl_FunctionsHopf_sh.bd [.int .i64 (p0), .slice true 0 0 table1 (.exact table2) 1] [⟨false, .hdr 1 gv3 gv4 gv5 gv6 (some gv7)⟩, ⟨false, .flat 0 (.ints .i64 gv8)⟩] K = (impl_FunctionsHopf_sh N (fun d0 d1 d2 => K (.tup [.agg [⟨.i64, 2, d0⟩, ⟨.u8, 1104, d1⟩], .int .i64 (d2)]) [⟨false, .hdr 1 gv3 gv4 gv5 gv6 (some gv7)⟩, ⟨false, .flat 0 (.ints .i64 gv8)⟩]) p0 table1 table2 gv3 gv4 gv5 gv6 gv7 gv8) := by kernel_rfl

noncomputable def impl_FunctionsHopf_n.kp : Keeps := ⟨[], [], []⟩

noncomputable def impl_FunctionsHopf_n.bd : Code := bodyOf Go.Proofs.Try.f7

noncomputable def impl_FunctionsHopf_n.fin {ρ : Type} (N : Nat) (K : AV → Heap → Option ρ) : XE → St → Option ρ := finK (E30 N) impl_FunctionsHopf_n.kp.fins Go.Proofs.Try.f7 [] K

theorem impl_FunctionsHopf_n.eq {ρ : Type} (N : Nat) (K : AV → Heap → Option ρ) (p0 : Int) :
    xbody (E30 N) ents impl_FunctionsHopf_n.kp N Go.Proofs.Try.f7 impl_FunctionsHopf_n.bd [.int .i64 (p0), .nils] [] K = (impl_FunctionsHopf_n N (fun d0 d1 d2 => K (.tup [.agg [⟨.i64, 2, d0⟩, ⟨.u8, 1104, d1⟩], .int .i64 (d2)]) []) p0) := by kernel_rfl

noncomputable def impl_FunctionsHopf_sh.en (N : Nat) (ρ : Type) : List AV → Heap → (AV → Heap → Option ρ) → Option ρ
  | [.int .i64 (p0), .slice true 0 0 table1 (.exact table2) 1], [⟨false, .hdr 1 gv3 gv4 gv5 gv6 (some gv7)⟩, ⟨false, .flat 0 (.ints .i64 gv8)⟩], K => (impl_FunctionsHopf_sh N (fun d0 d1 d2 => K (.tup [.agg [⟨.i64, 2, d0⟩, ⟨.u8, 1104, d1⟩], .int .i64 (d2)]) [⟨false, .hdr 1 gv3 gv4 gv5 gv6 (some gv7)⟩, ⟨false, .flat 0 (.ints .i64 gv8)⟩]) p0 table1 table2 gv3 gv4 gv5 gv6 gv7 gv8)
  | [.int .i64 (p0), .nils], [], K => (impl_FunctionsHopf_n N (fun d0 d1 d2 => K (.tup [.agg [⟨.i64, 2, d0⟩, ⟨.u8, 1104, d1⟩], .int .i64 (d2)]) []) p0)
  | _, _, _ => none

theorem impl_FunctionsHopf_sh.en_ok (N : Nat) (hE : EnvOk (E30 N) ents) (ρ : Type) (args : List AV) (sh : Heap) (K : AV → Heap → Option ρ) (r : ρ) (h : impl_FunctionsHopf_sh.en N ρ args sh K = some r) : ∃ v sh', K v sh' = some r ∧ FnOk (E30 N).P 7 args sh v sh' := by
  unfold impl_FunctionsHopf_sh.en at h
  split at h
  · exact fn_ok hE (kp := impl_FunctionsHopf_sh.kp) (N := N) Go.Proofs.Try.func7 (c := impl_FunctionsHopf_sh.bd) (by kernel_rfl) ((impl_FunctionsHopf_sh.eq N _ _ _ _ _ _ _ _ _ _).trans h)
  · exact fn_ok hE (kp := impl_FunctionsHopf_n.kp) (N := N) Go.Proofs.Try.func7 (c := impl_FunctionsHopf_n.bd) (by kernel_rfl) ((impl_FunctionsHopf_n.eq N _ _).trans h)
  · cases h

noncomputable def E31 (N : Nat) : Env := (E30 N).add 7 (impl_FunctionsHopf_sh.en N)

theorem E31_ok (N : Nat) : EnvOk (E31 N) ents := Env.add_ok (E30_ok N) (impl_FunctionsHopf_sh.en_ok N (E30_ok N))

noncomputable def laws_eqVector.kp : Keeps := ⟨[(0, [2, 3, 5], [], [])], [(0, [], [], [])], []⟩

noncomputable def laws_eqVector.bd : Code := bodyOf Go.Proofs.Try.f18

noncomputable def laws_eqVector.fin {ρ : Type} (N : Nat) (K : AV → Heap → Option ρ) : XE → St → Option ρ := finK (E31 N) laws_eqVector.kp.fins Go.Proofs.Try.f18 [] K

noncomputable def laws_eqVector.k0 {ρ : Type} (N : Nat) (K : AV → Heap → Option ρ) : XE → St → Option ρ := (blockK laws_eqVector.kp 0 0 (seqK (xcode (E31 N) ents laws_eqVector.kp 0 N (cB (cB laws_eqVector.bd)) 0) (laws_eqVector.fin N K)))

theorem laws_eqVector.k0_mix {ρ : Type} (N : Nat) (K : AV → Heap → Option ρ) : mixK (laws_eqVector.fin N K .ret) (laws_eqVector.k0 N K) = (laws_eqVector.k0 N K) := by
  funext e s; cases e <;> kernel_rfl

noncomputable def laws_eqVector.st0 (av0 : Nat → Int) (bv1 : Nat → Int) (i2 : Int) : St := ⟨sl 17 [(2, .sptr [(0, 8)]), (3, .sptr [(1, 8)]), (5, .int .i64 (i2))], [⟨true, .flat 8 (.ints .u8 av0)⟩, ⟨true, .flat 8 (.ints .u8 bv1)⟩]⟩

noncomputable def laws_eqVector.sx0_0 : St := ⟨sl 17 [], []⟩

theorem laws_eqVector.b0_gen {ρ : Type} (N : Nat) (K : AV → Heap → Option ρ) (L0 : St → Option ρ) (kv : XE → St → Option ρ) (av0 : Nat → Int) (bv1 : Nat → Int) (i2 : Int) :
    xcode (E31 N) ents laws_eqVector.kp 0 N (cL (cK (cB (cA (cB laws_eqVector.bd))))) 0 (laws_eqVector.st0 av0 bv1 i2) (roundK laws_eqVector.kp 0 0 L0 (mixK (laws_eqVector.fin N K .ret) kv)) = (laws_eqVector.b0 N (fun d0 => K (.bool (d0)) []) (fun i2 => L0 (laws_eqVector.st0 av0 bv1 i2)) (kv (.exit 0) (laws_eqVector.sx0_0)) av0 bv1 i2) := by kernel_rfl

theorem laws_eqVector.b0_eq {ρ : Type} (N : Nat) (K : AV → Heap → Option ρ) (L0 : St → Option ρ) (av0 : Nat → Int) (bv1 : Nat → Int) (i2 : Int) :
    xcode (E31 N) ents laws_eqVector.kp 0 N (cL (cK (cB (cA (cB laws_eqVector.bd))))) 0 (laws_eqVector.st0 av0 bv1 i2) (roundK laws_eqVector.kp 0 0 L0 (laws_eqVector.k0 N K)) = (laws_eqVector.b0 N (fun d0 => K (.bool (d0)) []) (fun i2 => L0 (laws_eqVector.st0 av0 bv1 i2)) ((laws_eqVector.k0 N K) (.exit 0) (laws_eqVector.sx0_0)) av0 bv1 i2) := by
  have h := laws_eqVector.b0_gen N K L0 (laws_eqVector.k0 N K) av0 bv1 i2
  rw [laws_eqVector.k0_mix] at h
  exact h

theorem laws_eqVector.a0_0_eq {ρ : Type} (N : Nat) (K : AV → Heap → Option ρ) :
    (laws_eqVector.k0 N K) (.exit 0) (laws_eqVector.sx0_0) = (laws_eqVector.a0_0 N (fun d0 => K (.bool (d0)) [])) := by kernel_rfl

theorem laws_eqVector.l0_eq {ρ : Type} (N : Nat) (K : AV → Heap → Option ρ) (av0 : Nat → Int) (bv1 : Nat → Int) :
    ∀ (m : Nat) (i2 : Int), xloop (xcode (E31 N) ents laws_eqVector.kp 0 N (cL (cK (cB (cA (cB laws_eqVector.bd))))) 0) laws_eqVector.kp 0 0 m (laws_eqVector.st0 av0 bv1 i2) (laws_eqVector.k0 N K) = (laws_eqVector.l0 N (fun d0 => K (.bool (d0)) []) av0 bv1 ((laws_eqVector.k0 N K) (.exit 0) (laws_eqVector.sx0_0)) m i2) := by
  intro m
  induction m with
  | zero => intros; rfl
  | succ m ih =>
    intro i2
    refine (laws_eqVector.b0_eq N K (fun s => xloop (xcode (E31 N) ents laws_eqVector.kp 0 N (cL (cK (cB (cA (cB laws_eqVector.bd))))) 0) laws_eqVector.kp 0 0 m s (laws_eqVector.k0 N K)) av0 bv1 i2).trans ?_
    simp only [ih]
    kernel_rfl

theorem laws_eqVector.s_eq {ρ : Type} (N : Nat) (K : AV → Heap → Option ρ) (av0 : Nat → Int) (bv1 : Nat → Int) :
    xbody (E31 N) ents laws_eqVector.kp N Go.Proofs.Try.f18 laws_eqVector.bd [.agg [⟨.u8, 8, av0⟩], .agg [⟨.u8, 8, bv1⟩]] [] K = (laws_eqVector.s N (fun d0 => K (.bool (d0)) []) (fun i2 => xloop (xcode (E31 N) ents laws_eqVector.kp 0 N (cL (cK (cB (cA (cB laws_eqVector.bd))))) 0) laws_eqVector.kp 0 0 N (laws_eqVector.st0 av0 bv1 i2) (laws_eqVector.k0 N K))) := by kernel_rfl

theorem laws_eqVector.eq {ρ : Type} (N : Nat) (K : AV → Heap → Option ρ) (av0 : Nat → Int) (bv1 : Nat → Int) :
    xbody (E31 N) ents laws_eqVector.kp N Go.Proofs.Try.f18 laws_eqVector.bd [.agg [⟨.u8, 8, av0⟩], .agg [⟨.u8, 8, bv1⟩]] [] K = (laws_eqVector N (fun d0 => K (.bool (d0)) []) av0 bv1) := by
  refine (laws_eqVector.s_eq N K av0 bv1).trans ?_
  simp only [laws_eqVector.l0_eq, laws_eqVector.a0_0_eq]
  kernel_rfl

noncomputable def laws_eqVector.en (N : Nat) (ρ : Type) : List AV → Heap → (AV → Heap → Option ρ) → Option ρ
  | [.agg [⟨.u8, 8, av0⟩], .agg [⟨.u8, 8, bv1⟩]], [], K => (laws_eqVector N (fun d0 => K (.bool (d0)) []) av0 bv1)
  | _, _, _ => none

theorem laws_eqVector.en_ok (N : Nat) (hE : EnvOk (E31 N) ents) (ρ : Type) (args : List AV) (sh : Heap) (K : AV → Heap → Option ρ) (r : ρ) (h : laws_eqVector.en N ρ args sh K = some r) : ∃ v sh', K v sh' = some r ∧ FnOk (E31 N).P 18 args sh v sh' := by
  unfold laws_eqVector.en at h
  split at h
  · exact fn_ok hE (kp := laws_eqVector.kp) (N := N) Go.Proofs.Try.func18 (c := laws_eqVector.bd) (by kernel_rfl) ((laws_eqVector.eq N _ _ _).trans h)
  · cases h

noncomputable def E32 (N : Nat) : Env := (E31 N).add 18 (laws_eqVector.en N)

theorem E32_ok (N : Nat) : EnvOk (E32 N) ents := Env.add_ok (E31_ok N) (laws_eqVector.en_ok N (E31_ok N))

noncomputable def laws_eqLinear.kp : Keeps := ⟨[(0, [2, 3, 5], [], [])], [(0, [], [], [])], []⟩

noncomputable def laws_eqLinear.bd : Code := bodyOf Go.Proofs.Try.f20

noncomputable def laws_eqLinear.fin {ρ : Type} (N : Nat) (K : AV → Heap → Option ρ) : XE → St → Option ρ := finK (E32 N) laws_eqLinear.kp.fins Go.Proofs.Try.f20 [] K

noncomputable def laws_eqLinear.k0 {ρ : Type} (N : Nat) (K : AV → Heap → Option ρ) : XE → St → Option ρ := (blockK laws_eqLinear.kp 0 0 (seqK (xcode (E32 N) ents laws_eqLinear.kp 0 N (cB (cB laws_eqLinear.bd)) 0) (laws_eqLinear.fin N K)))

theorem laws_eqLinear.k0_mix {ρ : Type} (N : Nat) (K : AV → Heap → Option ρ) : mixK (laws_eqLinear.fin N K .ret) (laws_eqLinear.k0 N K) = (laws_eqLinear.k0 N K) := by
  funext e s; cases e <;> kernel_rfl

noncomputable def laws_eqLinear.st0 (av0 : Nat → Int) (bv1 : Nat → Int) (i2 : Int) : St := ⟨sl 18 [(2, .sptr [(0, 64)]), (3, .sptr [(1, 64)]), (5, .int .i64 (i2))], [⟨true, .flat 64 (.ints .u8 av0)⟩, ⟨true, .flat 64 (.ints .u8 bv1)⟩]⟩

noncomputable def laws_eqLinear.sx0_0 : St := ⟨sl 18 [], []⟩

theorem laws_eqLinear.b0_gen {ρ : Type} (N : Nat) (K : AV → Heap → Option ρ) (L0 : St → Option ρ) (kv : XE → St → Option ρ) (av0 : Nat → Int) (bv1 : Nat → Int) (i2 : Int) :
    xcode (E32 N) ents laws_eqLinear.kp 0 N (cL (cK (cB (cA (cB laws_eqLinear.bd))))) 0 (laws_eqLinear.st0 av0 bv1 i2) (roundK laws_eqLinear.kp 0 0 L0 (mixK (laws_eqLinear.fin N K .ret) kv)) = (laws_eqLinear.b0 N (fun d0 => K (.bool (d0)) []) (fun i2 => L0 (laws_eqLinear.st0 av0 bv1 i2)) (kv (.exit 0) (laws_eqLinear.sx0_0)) av0 bv1 i2) := by kernel_rfl

theorem laws_eqLinear.b0_eq {ρ : Type} (N : Nat) (K : AV → Heap → Option ρ) (L0 : St → Option ρ) (av0 : Nat → Int) (bv1 : Nat → Int) (i2 : Int) :
    xcode (E32 N) ents laws_eqLinear.kp 0 N (cL (cK (cB (cA (cB laws_eqLinear.bd))))) 0 (laws_eqLinear.st0 av0 bv1 i2) (roundK laws_eqLinear.kp 0 0 L0 (laws_eqLinear.k0 N K)) = (laws_eqLinear.b0 N (fun d0 => K (.bool (d0)) []) (fun i2 => L0 (laws_eqLinear.st0 av0 bv1 i2)) ((laws_eqLinear.k0 N K) (.exit 0) (laws_eqLinear.sx0_0)) av0 bv1 i2) := by
  have h := laws_eqLinear.b0_gen N K L0 (laws_eqLinear.k0 N K) av0 bv1 i2
  rw [laws_eqLinear.k0_mix] at h
  exact h

theorem laws_eqLinear.a0_0_eq {ρ : Type} (N : Nat) (K : AV → Heap → Option ρ) :
    (laws_eqLinear.k0 N K) (.exit 0) (laws_eqLinear.sx0_0) = (laws_eqLinear.a0_0 N (fun d0 => K (.bool (d0)) [])) := by kernel_rfl

theorem laws_eqLinear.l0_eq {ρ : Type} (N : Nat) (K : AV → Heap → Option ρ) (av0 : Nat → Int) (bv1 : Nat → Int) :
    ∀ (m : Nat) (i2 : Int), xloop (xcode (E32 N) ents laws_eqLinear.kp 0 N (cL (cK (cB (cA (cB laws_eqLinear.bd))))) 0) laws_eqLinear.kp 0 0 m (laws_eqLinear.st0 av0 bv1 i2) (laws_eqLinear.k0 N K) = (laws_eqLinear.l0 N (fun d0 => K (.bool (d0)) []) av0 bv1 ((laws_eqLinear.k0 N K) (.exit 0) (laws_eqLinear.sx0_0)) m i2) := by
  intro m
  induction m with
  | zero => intros; rfl
  | succ m ih =>
    intro i2
    refine (laws_eqLinear.b0_eq N K (fun s => xloop (xcode (E32 N) ents laws_eqLinear.kp 0 N (cL (cK (cB (cA (cB laws_eqLinear.bd))))) 0) laws_eqLinear.kp 0 0 m s (laws_eqLinear.k0 N K)) av0 bv1 i2).trans ?_
    simp only [ih]
    kernel_rfl

theorem laws_eqLinear.s_eq {ρ : Type} (N : Nat) (K : AV → Heap → Option ρ) (av0 : Nat → Int) (bv1 : Nat → Int) :
    xbody (E32 N) ents laws_eqLinear.kp N Go.Proofs.Try.f20 laws_eqLinear.bd [.agg [⟨.u8, 64, av0⟩], .agg [⟨.u8, 64, bv1⟩]] [] K = (laws_eqLinear.s N (fun d0 => K (.bool (d0)) []) (fun i2 => xloop (xcode (E32 N) ents laws_eqLinear.kp 0 N (cL (cK (cB (cA (cB laws_eqLinear.bd))))) 0) laws_eqLinear.kp 0 0 N (laws_eqLinear.st0 av0 bv1 i2) (laws_eqLinear.k0 N K))) := by kernel_rfl

theorem laws_eqLinear.eq {ρ : Type} (N : Nat) (K : AV → Heap → Option ρ) (av0 : Nat → Int) (bv1 : Nat → Int) :
    xbody (E32 N) ents laws_eqLinear.kp N Go.Proofs.Try.f20 laws_eqLinear.bd [.agg [⟨.u8, 64, av0⟩], .agg [⟨.u8, 64, bv1⟩]] [] K = (laws_eqLinear N (fun d0 => K (.bool (d0)) []) av0 bv1) := by
  refine (laws_eqLinear.s_eq N K av0 bv1).trans ?_
  simp only [laws_eqLinear.l0_eq, laws_eqLinear.a0_0_eq]
  kernel_rfl

noncomputable def laws_eqLinear.en (N : Nat) (ρ : Type) : List AV → Heap → (AV → Heap → Option ρ) → Option ρ
  | [.agg [⟨.u8, 64, av0⟩], .agg [⟨.u8, 64, bv1⟩]], [], K => (laws_eqLinear N (fun d0 => K (.bool (d0)) []) av0 bv1)
  | _, _, _ => none

theorem laws_eqLinear.en_ok (N : Nat) (hE : EnvOk (E32 N) ents) (ρ : Type) (args : List AV) (sh : Heap) (K : AV → Heap → Option ρ) (r : ρ) (h : laws_eqLinear.en N ρ args sh K = some r) : ∃ v sh', K v sh' = some r ∧ FnOk (E32 N).P 20 args sh v sh' := by
  unfold laws_eqLinear.en at h
  split at h
  · exact fn_ok hE (kp := laws_eqLinear.kp) (N := N) Go.Proofs.Try.func20 (c := laws_eqLinear.bd) (by kernel_rfl) ((laws_eqLinear.eq N _ _ _).trans h)
  · cases h

noncomputable def E33 (N : Nat) : Env := (E32 N).add 20 (laws_eqLinear.en N)

theorem E33_ok (N : Nat) : EnvOk (E33 N) ents := Env.add_ok (E32_ok N) (laws_eqLinear.en_ok N (E32_ok N))

noncomputable def laws_eqTable.kp : Keeps := ⟨[(0, [2, 3, 5], [], [])], [(0, [], [], [])], []⟩

noncomputable def laws_eqTable.bd : Code := bodyOf Go.Proofs.Try.f19

noncomputable def laws_eqTable.fin {ρ : Type} (N : Nat) (K : AV → Heap → Option ρ) : XE → St → Option ρ := finK (E33 N) laws_eqTable.kp.fins Go.Proofs.Try.f19 [] K

noncomputable def laws_eqTable.k0 {ρ : Type} (N : Nat) (K : AV → Heap → Option ρ) : XE → St → Option ρ := (blockK laws_eqTable.kp 0 0 (seqK (xcode (E33 N) ents laws_eqTable.kp 0 N (cB (cB laws_eqTable.bd)) 0) (laws_eqTable.fin N K)))

theorem laws_eqTable.k0_mix {ρ : Type} (N : Nat) (K : AV → Heap → Option ρ) : mixK (laws_eqTable.fin N K .ret) (laws_eqTable.k0 N K) = (laws_eqTable.k0 N K) := by
  funext e s; cases e <;> kernel_rfl

noncomputable def laws_eqTable.st0 (av0 : Nat → Int) (bv1 : Nat → Int) (i2 : Int) : St := ⟨sl 18 [(2, .sptr [(0, 512)]), (3, .sptr [(1, 512)]), (5, .int .i64 (i2))], [⟨true, .flat 512 (.ints .u8 av0)⟩, ⟨true, .flat 512 (.ints .u8 bv1)⟩]⟩

noncomputable def laws_eqTable.sx0_0 : St := ⟨sl 18 [], []⟩

theorem laws_eqTable.b0_gen {ρ : Type} (N : Nat) (K : AV → Heap → Option ρ) (L0 : St → Option ρ) (kv : XE → St → Option ρ) (av0 : Nat → Int) (bv1 : Nat → Int) (i2 : Int) :
    xcode (E33 N) ents laws_eqTable.kp 0 N (cL (cK (cB (cA (cB laws_eqTable.bd))))) 0 (laws_eqTable.st0 av0 bv1 i2) (roundK laws_eqTable.kp 0 0 L0 (mixK (laws_eqTable.fin N K .ret) kv)) = (laws_eqTable.b0 N (fun d0 => K (.bool (d0)) []) (fun i2 => L0 (laws_eqTable.st0 av0 bv1 i2)) (kv (.exit 0) (laws_eqTable.sx0_0)) av0 bv1 i2) := by kernel_rfl

theorem laws_eqTable.b0_eq {ρ : Type} (N : Nat) (K : AV → Heap → Option ρ) (L0 : St → Option ρ) (av0 : Nat → Int) (bv1 : Nat → Int) (i2 : Int) :
    xcode (E33 N) ents laws_eqTable.kp 0 N (cL (cK (cB (cA (cB laws_eqTable.bd))))) 0 (laws_eqTable.st0 av0 bv1 i2) (roundK laws_eqTable.kp 0 0 L0 (laws_eqTable.k0 N K)) = (laws_eqTable.b0 N (fun d0 => K (.bool (d0)) []) (fun i2 => L0 (laws_eqTable.st0 av0 bv1 i2)) ((laws_eqTable.k0 N K) (.exit 0) (laws_eqTable.sx0_0)) av0 bv1 i2) := by
  have h := laws_eqTable.b0_gen N K L0 (laws_eqTable.k0 N K) av0 bv1 i2
  rw [laws_eqTable.k0_mix] at h
  exact h

theorem laws_eqTable.a0_0_eq {ρ : Type} (N : Nat) (K : AV → Heap → Option ρ) :
    (laws_eqTable.k0 N K) (.exit 0) (laws_eqTable.sx0_0) = (laws_eqTable.a0_0 N (fun d0 => K (.bool (d0)) [])) := by kernel_rfl

theorem laws_eqTable.l0_eq {ρ : Type} (N : Nat) (K : AV → Heap → Option ρ) (av0 : Nat → Int) (bv1 : Nat → Int) :
    ∀ (m : Nat) (i2 : Int), xloop (xcode (E33 N) ents laws_eqTable.kp 0 N (cL (cK (cB (cA (cB laws_eqTable.bd))))) 0) laws_eqTable.kp 0 0 m (laws_eqTable.st0 av0 bv1 i2) (laws_eqTable.k0 N K) = (laws_eqTable.l0 N (fun d0 => K (.bool (d0)) []) av0 bv1 ((laws_eqTable.k0 N K) (.exit 0) (laws_eqTable.sx0_0)) m i2) := by
  intro m
  induction m with
  | zero => intros; rfl
  | succ m ih =>
    intro i2
    refine (laws_eqTable.b0_eq N K (fun s => xloop (xcode (E33 N) ents laws_eqTable.kp 0 N (cL (cK (cB (cA (cB laws_eqTable.bd))))) 0) laws_eqTable.kp 0 0 m s (laws_eqTable.k0 N K)) av0 bv1 i2).trans ?_
    simp only [ih]
    kernel_rfl

theorem laws_eqTable.s_eq {ρ : Type} (N : Nat) (K : AV → Heap → Option ρ) (av0 : Nat → Int) (bv1 : Nat → Int) :
    xbody (E33 N) ents laws_eqTable.kp N Go.Proofs.Try.f19 laws_eqTable.bd [.agg [⟨.u8, 512, av0⟩], .agg [⟨.u8, 512, bv1⟩]] [] K = (laws_eqTable.s N (fun d0 => K (.bool (d0)) []) (fun i2 => xloop (xcode (E33 N) ents laws_eqTable.kp 0 N (cL (cK (cB (cA (cB laws_eqTable.bd))))) 0) laws_eqTable.kp 0 0 N (laws_eqTable.st0 av0 bv1 i2) (laws_eqTable.k0 N K))) := by kernel_rfl

theorem laws_eqTable.eq {ρ : Type} (N : Nat) (K : AV → Heap → Option ρ) (av0 : Nat → Int) (bv1 : Nat → Int) :
    xbody (E33 N) ents laws_eqTable.kp N Go.Proofs.Try.f19 laws_eqTable.bd [.agg [⟨.u8, 512, av0⟩], .agg [⟨.u8, 512, bv1⟩]] [] K = (laws_eqTable N (fun d0 => K (.bool (d0)) []) av0 bv1) := by
  refine (laws_eqTable.s_eq N K av0 bv1).trans ?_
  simp only [laws_eqTable.l0_eq, laws_eqTable.a0_0_eq]
  kernel_rfl

noncomputable def laws_eqTable.en (N : Nat) (ρ : Type) : List AV → Heap → (AV → Heap → Option ρ) → Option ρ
  | [.agg [⟨.u8, 512, av0⟩], .agg [⟨.u8, 512, bv1⟩]], [], K => (laws_eqTable N (fun d0 => K (.bool (d0)) []) av0 bv1)
  | _, _, _ => none

theorem laws_eqTable.en_ok (N : Nat) (hE : EnvOk (E33 N) ents) (ρ : Type) (args : List AV) (sh : Heap) (K : AV → Heap → Option ρ) (r : ρ) (h : laws_eqTable.en N ρ args sh K = some r) : ∃ v sh', K v sh' = some r ∧ FnOk (E33 N).P 19 args sh v sh' := by
  unfold laws_eqTable.en at h
  split at h
  · exact fn_ok hE (kp := laws_eqTable.kp) (N := N) Go.Proofs.Try.func19 (c := laws_eqTable.bd) (by kernel_rfl) ((laws_eqTable.eq N _ _ _).trans h)
  · cases h

noncomputable def E34 (N : Nat) : Env := (E33 N).add 19 (laws_eqTable.en N)

theorem E34_ok (N : Nat) : EnvOk (E34 N) ents := Env.add_ok (E33_ok N) (laws_eqTable.en_ok N (E33_ok N))

noncomputable def laws_eqHopf.kp : Keeps := ⟨[], [], []⟩

noncomputable def laws_eqHopf.bd : Code := bodyOf Go.Proofs.Try.f8

noncomputable def laws_eqHopf.fin {ρ : Type} (N : Nat) (K : AV → Heap → Option ρ) : XE → St → Option ρ := finK (E34 N) laws_eqHopf.kp.fins Go.Proofs.Try.f8 [] K

theorem laws_eqHopf.eq {ρ : Type} (N : Nat) (K : AV → Heap → Option ρ) (av0 : Nat → Int) (av1 : Nat → Int) (bv2 : Nat → Int) (bv3 : Nat → Int) :
    xbody (E34 N) ents laws_eqHopf.kp N Go.Proofs.Try.f8 laws_eqHopf.bd [.agg [⟨.i64, 2, av0⟩, ⟨.u8, 1104, av1⟩], .agg [⟨.i64, 2, bv2⟩, ⟨.u8, 1104, bv3⟩]] [] K = (laws_eqHopf N (fun d0 => K (.bool (d0)) []) av0 av1 bv2 bv3) := by kernel_rfl

noncomputable def laws_eqHopf.en (N : Nat) (ρ : Type) : List AV → Heap → (AV → Heap → Option ρ) → Option ρ
  | [.agg [⟨.i64, 2, av0⟩, ⟨.u8, 1104, av1⟩], .agg [⟨.i64, 2, bv2⟩, ⟨.u8, 1104, bv3⟩]], [], K => (laws_eqHopf N (fun d0 => K (.bool (d0)) []) av0 av1 bv2 bv3)
  | _, _, _ => none

theorem laws_eqHopf.en_ok (N : Nat) (hE : EnvOk (E34 N) ents) (ρ : Type) (args : List AV) (sh : Heap) (K : AV → Heap → Option ρ) (r : ρ) (h : laws_eqHopf.en N ρ args sh K = some r) : ∃ v sh', K v sh' = some r ∧ FnOk (E34 N).P 8 args sh v sh' := by
  unfold laws_eqHopf.en at h
  split at h
  · exact fn_ok hE (kp := laws_eqHopf.kp) (N := N) Go.Proofs.Try.func8 (c := laws_eqHopf.bd) (by kernel_rfl) ((laws_eqHopf.eq N _ _ _ _ _).trans h)
  · cases h

noncomputable def E35 (N : Nat) : Env := (E34 N).add 8 (laws_eqHopf.en N)

theorem E35_ok (N : Nat) : EnvOk (E35 N) ents := Env.add_ok (E34_ok N) (laws_eqHopf.en_ok N (E34_ok N))

noncomputable def laws_eqInt64S_ss.kp : Keeps := ⟨[(0, [0, 1, 5], [], [])], [(0, [], [], [])], []⟩

noncomputable def laws_eqInt64S_ss.bd : Code := bodyOf Go.Proofs.Try.f33

noncomputable def laws_eqInt64S_ss.fin {ρ : Type} (N : Nat) (K : AV → Heap → Option ρ) (gv4 : Nat) (gv5 : Nat → Int) (gv6 : Nat) (gv7 : Nat → Int) : XE → St → Option ρ := finK (E35 N) laws_eqInt64S_ss.kp.fins Go.Proofs.Try.f33 [⟨false, .flat gv4 (.ints .i64 gv5)⟩, ⟨false, .flat gv6 (.ints .i64 gv7)⟩] K

noncomputable def laws_eqInt64S_ss.k0 {ρ : Type} (N : Nat) (K : AV → Heap → Option ρ) (gv4 : Nat) (gv5 : Nat → Int) (gv6 : Nat) (gv7 : Nat → Int) : XE → St → Option ρ := (blockK laws_eqInt64S_ss.kp 2 0 (seqK (xcode (E35 N) ents laws_eqInt64S_ss.kp 2 N (cB (cB (cB laws_eqInt64S_ss.bd))) 0) (laws_eqInt64S_ss.fin N K gv4 gv5 gv6 gv7)))

theorem laws_eqInt64S_ss.k0_mix {ρ : Type} (N : Nat) (K : AV → Heap → Option ρ) (gv4 : Nat) (gv5 : Nat → Int) (gv6 : Nat) (gv7 : Nat → Int) : mixK (laws_eqInt64S_ss.fin N K gv4 gv5 gv6 gv7 .ret) (laws_eqInt64S_ss.k0 N K gv4 gv5 gv6 gv7) = (laws_eqInt64S_ss.k0 N K gv4 gv5 gv6 gv7) := by
  funext e s; cases e <;> kernel_rfl

noncomputable def laws_eqInt64S_ss.st0 (av0 : Nat) (av1 : Nat) (bv2 : Nat) (bv3 : Nat) (gv4 : Nat) (gv5 : Nat → Int) (gv6 : Nat) (gv7 : Nat → Int) (i8 : Int) : St := ⟨sl 26 [(0, .slice false 0 0 av0 (.exact av1) 1), (1, .slice false 1 0 bv2 (.exact bv3) 1), (5, .int .i64 (i8))], [⟨false, .flat gv4 (.ints .i64 gv5)⟩, ⟨false, .flat gv6 (.ints .i64 gv7)⟩]⟩

noncomputable def laws_eqInt64S_ss.sx0_0 (gv4 : Nat) (gv5 : Nat → Int) (gv6 : Nat) (gv7 : Nat → Int) : St := ⟨sl 26 [], [⟨false, .flat gv4 (.ints .i64 gv5)⟩, ⟨false, .flat gv6 (.ints .i64 gv7)⟩]⟩

theorem laws_eqInt64S_ss.b0_gen {ρ : Type} (N : Nat) (K : AV → Heap → Option ρ) (L0 : St → Option ρ) (kv : XE → St → Option ρ) (av0 : Nat) (av1 : Nat) (bv2 : Nat) (bv3 : Nat) (gv4 : Nat) (gv5 : Nat → Int) (gv6 : Nat) (gv7 : Nat → Int) (i8 : Int) :
    xcode (E35 N) ents laws_eqInt64S_ss.kp 2 N (cL (cK (cB (cA (cB (cB laws_eqInt64S_ss.bd)))))) 0 (laws_eqInt64S_ss.st0 av0 av1 bv2 bv3 gv4 gv5 gv6 gv7 i8) (roundK laws_eqInt64S_ss.kp 2 0 L0 (mixK (laws_eqInt64S_ss.fin N K gv4 gv5 gv6 gv7 .ret) kv)) = (laws_eqInt64S_ss.b0 N (fun d0 => K (.bool (d0)) [⟨false, .flat gv4 (.ints .i64 gv5)⟩, ⟨false, .flat gv6 (.ints .i64 gv7)⟩]) (fun i8 => L0 (laws_eqInt64S_ss.st0 av0 av1 bv2 bv3 gv4 gv5 gv6 gv7 i8)) (kv (.exit 0) (laws_eqInt64S_ss.sx0_0 gv4 gv5 gv6 gv7)) av0 bv2 gv5 gv7 i8) := by kernel_rfl

theorem laws_eqInt64S_ss.b0_eq {ρ : Type} (N : Nat) (K : AV → Heap → Option ρ) (L0 : St → Option ρ) (av0 : Nat) (av1 : Nat) (bv2 : Nat) (bv3 : Nat) (gv4 : Nat) (gv5 : Nat → Int) (gv6 : Nat) (gv7 : Nat → Int) (i8 : Int) :
    xcode (E35 N) ents laws_eqInt64S_ss.kp 2 N (cL (cK (cB (cA (cB (cB laws_eqInt64S_ss.bd)))))) 0 (laws_eqInt64S_ss.st0 av0 av1 bv2 bv3 gv4 gv5 gv6 gv7 i8) (roundK laws_eqInt64S_ss.kp 2 0 L0 (laws_eqInt64S_ss.k0 N K gv4 gv5 gv6 gv7)) = (laws_eqInt64S_ss.b0 N (fun d0 => K (.bool (d0)) [⟨false, .flat gv4 (.ints .i64 gv5)⟩, ⟨false, .flat gv6 (.ints .i64 gv7)⟩]) (fun i8 => L0 (laws_eqInt64S_ss.st0 av0 av1 bv2 bv3 gv4 gv5 gv6 gv7 i8)) ((laws_eqInt64S_ss.k0 N K gv4 gv5 gv6 gv7) (.exit 0) (laws_eqInt64S_ss.sx0_0 gv4 gv5 gv6 gv7)) av0 bv2 gv5 gv7 i8) := by
  have h := laws_eqInt64S_ss.b0_gen N K L0 (laws_eqInt64S_ss.k0 N K gv4 gv5 gv6 gv7) av0 av1 bv2 bv3 gv4 gv5 gv6 gv7 i8
  rw [laws_eqInt64S_ss.k0_mix] at h
  exact h

theorem laws_eqInt64S_ss.a0_0_eq {ρ : Type} (N : Nat) (K : AV → Heap → Option ρ) (gv4 : Nat) (gv5 : Nat → Int) (gv6 : Nat) (gv7 : Nat → Int) :
    (laws_eqInt64S_ss.k0 N K gv4 gv5 gv6 gv7) (.exit 0) (laws_eqInt64S_ss.sx0_0 gv4 gv5 gv6 gv7) = (laws_eqInt64S_ss.a0_0 N (fun d0 => K (.bool (d0)) [⟨false, .flat gv4 (.ints .i64 gv5)⟩, ⟨false, .flat gv6 (.ints .i64 gv7)⟩])) := by kernel_rfl

theorem laws_eqInt64S_ss.l0_eq {ρ : Type} (N : Nat) (K : AV → Heap → Option ρ) (av0 : Nat) (av1 : Nat) (bv2 : Nat) (bv3 : Nat) (gv4 : Nat) (gv5 : Nat → Int) (gv6 : Nat) (gv7 : Nat → Int) :
    ∀ (m : Nat) (i8 : Int), xloop (xcode (E35 N) ents laws_eqInt64S_ss.kp 2 N (cL (cK (cB (cA (cB (cB laws_eqInt64S_ss.bd)))))) 0) laws_eqInt64S_ss.kp 2 0 m (laws_eqInt64S_ss.st0 av0 av1 bv2 bv3 gv4 gv5 gv6 gv7 i8) (laws_eqInt64S_ss.k0 N K gv4 gv5 gv6 gv7) = (laws_eqInt64S_ss.l0 N (fun d0 => K (.bool (d0)) [⟨false, .flat gv4 (.ints .i64 gv5)⟩, ⟨false, .flat gv6 (.ints .i64 gv7)⟩]) av0 bv2 gv5 gv7 ((laws_eqInt64S_ss.k0 N K gv4 gv5 gv6 gv7) (.exit 0) (laws_eqInt64S_ss.sx0_0 gv4 gv5 gv6 gv7)) m i8) := by
  intro m
  induction m with
  | zero => intros; rfl
  | succ m ih =>
    intro i8
    refine (laws_eqInt64S_ss.b0_eq N K (fun s => xloop (xcode (E35 N) ents laws_eqInt64S_ss.kp 2 N (cL (cK (cB (cA (cB (cB laws_eqInt64S_ss.bd)))))) 0) laws_eqInt64S_ss.kp 2 0 m s (laws_eqInt64S_ss.k0 N K gv4 gv5 gv6 gv7)) av0 av1 bv2 bv3 gv4 gv5 gv6 gv7 i8).trans ?_
    simp only [ih]
    kernel_rfl

theorem laws_eqInt64S_ss.s_eq {ρ : Type} (N : Nat) (K : AV → Heap → Option ρ) (av0 : Nat) (av1 : Nat) (bv2 : Nat) (bv3 : Nat) (gv4 : Nat) (gv5 : Nat → Int) (gv6 : Nat) (gv7 : Nat → Int) :
    xbody (E35 N) ents laws_eqInt64S_ss.kp N Go.Proofs.Try.f33 laws_eqInt64S_ss.bd [.slice false 0 0 av0 (.exact av1) 1, .slice false 1 0 bv2 (.exact bv3) 1] [⟨false, .flat gv4 (.ints .i64 gv5)⟩, ⟨false, .flat gv6 (.ints .i64 gv7)⟩] K = (laws_eqInt64S_ss.s N (fun d0 => K (.bool (d0)) [⟨false, .flat gv4 (.ints .i64 gv5)⟩, ⟨false, .flat gv6 (.ints .i64 gv7)⟩]) (fun i8 => xloop (xcode (E35 N) ents laws_eqInt64S_ss.kp 2 N (cL (cK (cB (cA (cB (cB laws_eqInt64S_ss.bd)))))) 0) laws_eqInt64S_ss.kp 2 0 N (laws_eqInt64S_ss.st0 av0 av1 bv2 bv3 gv4 gv5 gv6 gv7 i8) (laws_eqInt64S_ss.k0 N K gv4 gv5 gv6 gv7)) av0 bv2) := by kernel_rfl

theorem laws_eqInt64S_ss.eq {ρ : Type} (N : Nat) (K : AV → Heap → Option ρ) (av0 : Nat) (av1 : Nat) (bv2 : Nat) (bv3 : Nat) (gv4 : Nat) (gv5 : Nat → Int) (gv6 : Nat) (gv7 : Nat → Int) :
    xbody (E35 N) ents laws_eqInt64S_ss.kp N Go.Proofs.Try.f33 laws_eqInt64S_ss.bd [.slice false 0 0 av0 (.exact av1) 1, .slice false 1 0 bv2 (.exact bv3) 1] [⟨false, .flat gv4 (.ints .i64 gv5)⟩, ⟨false, .flat gv6 (.ints .i64 gv7)⟩] K = (laws_eqInt64S_ss N (fun d0 => K (.bool (d0)) [⟨false, .flat gv4 (.ints .i64 gv5)⟩, ⟨false, .flat gv6 (.ints .i64 gv7)⟩]) av0 av1 bv2 bv3 gv4 gv5 gv6 gv7) := by
  refine (laws_eqInt64S_ss.s_eq N K av0 av1 bv2 bv3 gv4 gv5 gv6 gv7).trans ?_
  simp only [laws_eqInt64S_ss.l0_eq, laws_eqInt64S_ss.a0_0_eq]
  kernel_rfl

noncomputable def laws_eqInt64S_ss.en (N : Nat) (ρ : Type) : List AV → Heap → (AV → Heap → Option ρ) → Option ρ
  | [.slice false 0 0 av0 (.exact av1) 1, .slice false 1 0 bv2 (.exact bv3) 1], [⟨false, .flat gv4 (.ints .i64 gv5)⟩, ⟨false, .flat gv6 (.ints .i64 gv7)⟩], K => (laws_eqInt64S_ss N (fun d0 => K (.bool (d0)) [⟨false, .flat gv4 (.ints .i64 gv5)⟩, ⟨false, .flat gv6 (.ints .i64 gv7)⟩]) av0 av1 bv2 bv3 gv4 gv5 gv6 gv7)
  | _, _, _ => none

theorem laws_eqInt64S_ss.en_ok (N : Nat) (hE : EnvOk (E35 N) ents) (ρ : Type) (args : List AV) (sh : Heap) (K : AV → Heap → Option ρ) (r : ρ) (h : laws_eqInt64S_ss.en N ρ args sh K = some r) : ∃ v sh', K v sh' = some r ∧ FnOk (E35 N).P 33 args sh v sh' := by
  unfold laws_eqInt64S_ss.en at h
  split at h
  · exact fn_ok hE (kp := laws_eqInt64S_ss.kp) (N := N) Go.Proofs.Try.func33 (c := laws_eqInt64S_ss.bd) (by kernel_rfl) ((laws_eqInt64S_ss.eq N _ _ _ _ _ _ _ _ _).trans h)
  · cases h

noncomputable def E36 (N : Nat) : Env := (E35 N).add 33 (laws_eqInt64S_ss.en N)

theorem E36_ok (N : Nat) : EnvOk (E36 N) ents := Env.add_ok (E35_ok N) (laws_eqInt64S_ss.en_ok N (E35_ok N))

noncomputable def laws_intactInt64S_ss.kp : Keeps := ⟨[], [], []⟩

noncomputable def laws_intactInt64S_ss.bd : Code := bodyOf Go.Proofs.Try.f21

noncomputable def laws_intactInt64S_ss.fin {ρ : Type} (N : Nat) (K : AV → Heap → Option ρ) (gv4 : Nat) (gv5 : Nat → Int) (gv6 : Nat) (gv7 : Nat → Int) : XE → St → Option ρ := finK (E36 N) laws_intactInt64S_ss.kp.fins Go.Proofs.Try.f21 [⟨false, .flat gv4 (.ints .i64 gv5)⟩, ⟨false, .flat gv6 (.ints .i64 gv7)⟩] K

theorem laws_intactInt64S_ss.eq {ρ : Type} (N : Nat) (K : AV → Heap → Option ρ) (x0 : Nat) (x1 : Nat) (y2 : Nat) (y3 : Nat) (gv4 : Nat) (gv5 : Nat → Int) (gv6 : Nat) (gv7 : Nat → Int) :
    xbody (E36 N) ents laws_intactInt64S_ss.kp N Go.Proofs.Try.f21 laws_intactInt64S_ss.bd [.slice false 0 0 x0 (.exact x1) 1, .slice false 1 0 y2 (.exact y3) 1] [⟨false, .flat gv4 (.ints .i64 gv5)⟩, ⟨false, .flat gv6 (.ints .i64 gv7)⟩] K = (laws_intactInt64S_ss N (fun d0 => K (.bool (d0)) [⟨false, .flat gv4 (.ints .i64 gv5)⟩, ⟨false, .flat gv6 (.ints .i64 gv7)⟩]) x0 x1 y2 y3 gv4 gv5 gv6 gv7) := by kernel_rfl

noncomputable def laws_intactInt64S_ss.en (N : Nat) (ρ : Type) : List AV → Heap → (AV → Heap → Option ρ) → Option ρ
  | [.slice false 0 0 x0 (.exact x1) 1, .slice false 1 0 y2 (.exact y3) 1], [⟨false, .flat gv4 (.ints .i64 gv5)⟩, ⟨false, .flat gv6 (.ints .i64 gv7)⟩], K => (laws_intactInt64S_ss N (fun d0 => K (.bool (d0)) [⟨false, .flat gv4 (.ints .i64 gv5)⟩, ⟨false, .flat gv6 (.ints .i64 gv7)⟩]) x0 x1 y2 y3 gv4 gv5 gv6 gv7)
  | _, _, _ => none

theorem laws_intactInt64S_ss.en_ok (N : Nat) (hE : EnvOk (E36 N) ents) (ρ : Type) (args : List AV) (sh : Heap) (K : AV → Heap → Option ρ) (r : ρ) (h : laws_intactInt64S_ss.en N ρ args sh K = some r) : ∃ v sh', K v sh' = some r ∧ FnOk (E36 N).P 21 args sh v sh' := by
  unfold laws_intactInt64S_ss.en at h
  split at h
  · exact fn_ok hE (kp := laws_intactInt64S_ss.kp) (N := N) Go.Proofs.Try.func21 (c := laws_intactInt64S_ss.bd) (by kernel_rfl) ((laws_intactInt64S_ss.eq N _ _ _ _ _ _ _ _ _).trans h)
  · cases h

noncomputable def E37 (N : Nat) : Env := (E36 N).add 21 (laws_intactInt64S_ss.en N)

theorem E37_ok (N : Nat) : EnvOk (E37 N) ents := Env.add_ok (E36_ok N) (laws_intactInt64S_ss.en_ok N (E36_ok N))

noncomputable def laws_eqInt64SS_shsh.kp : Keeps := ⟨[(0, [0, 1, 5], [], [])], [(0, [], [], [])], []⟩

noncomputable def laws_eqInt64SS_shsh.bd : Code := bodyOf Go.Proofs.Try.f22

noncomputable def laws_eqInt64SS_shsh.fin {ρ : Type} (N : Nat) (K : AV → Heap → Option ρ) (gv4 : Nat) (gv5 : Nat) (gv6 : Nat → Nat) (gv7 : Nat → Nat) (gv8 : Nat → Nat) (gv9 : Nat) (gv10 : Nat) (gv11 : Nat → Nat) (gv12 : Nat → Nat) (gv13 : Nat → Nat) (gv14 : Nat → Int) (gv15 : Nat → Int) : XE → St → Option ρ := finK (E37 N) laws_eqInt64SS_shsh.kp.fins Go.Proofs.Try.f22 [⟨false, .hdr 2 gv4 gv5 gv6 gv7 (some gv8)⟩, ⟨false, .hdr 3 gv9 gv10 gv11 gv12 (some gv13)⟩, ⟨false, .flat 0 (.ints .i64 gv14)⟩, ⟨false, .flat 0 (.ints .i64 gv15)⟩] K

noncomputable def laws_eqInt64SS_shsh.k0 {ρ : Type} (N : Nat) (K : AV → Heap → Option ρ) (gv4 : Nat) (gv5 : Nat) (gv6 : Nat → Nat) (gv7 : Nat → Nat) (gv8 : Nat → Nat) (gv9 : Nat) (gv10 : Nat) (gv11 : Nat → Nat) (gv12 : Nat → Nat) (gv13 : Nat → Nat) (gv14 : Nat → Int) (gv15 : Nat → Int) : XE → St → Option ρ := (blockK laws_eqInt64SS_shsh.kp 4 0 (seqK (xcode (E37 N) ents laws_eqInt64SS_shsh.kp 4 N (cB (cB (cB laws_eqInt64SS_shsh.bd))) 0) (laws_eqInt64SS_shsh.fin N K gv4 gv5 gv6 gv7 gv8 gv9 gv10 gv11 gv12 gv13 gv14 gv15)))

theorem laws_eqInt64SS_shsh.k0_mix {ρ : Type} (N : Nat) (K : AV → Heap → Option ρ) (gv4 : Nat) (gv5 : Nat) (gv6 : Nat → Nat) (gv7 : Nat → Nat) (gv8 : Nat → Nat) (gv9 : Nat) (gv10 : Nat) (gv11 : Nat → Nat) (gv12 : Nat → Nat) (gv13 : Nat → Nat) (gv14 : Nat → Int) (gv15 : Nat → Int) : mixK (laws_eqInt64SS_shsh.fin N K gv4 gv5 gv6 gv7 gv8 gv9 gv10 gv11 gv12 gv13 gv14 gv15 .ret) (laws_eqInt64SS_shsh.k0 N K gv4 gv5 gv6 gv7 gv8 gv9 gv10 gv11 gv12 gv13 gv14 gv15) = (laws_eqInt64SS_shsh.k0 N K gv4 gv5 gv6 gv7 gv8 gv9 gv10 gv11 gv12 gv13 gv14 gv15) := by
  funext e s; cases e <;> kernel_rfl

noncomputable def laws_eqInt64SS_shsh.st0 (av0 : Nat) (av1 : Nat) (bv2 : Nat) (bv3 : Nat) (gv4 : Nat) (gv5 : Nat) (gv6 : Nat → Nat) (gv7 : Nat → Nat) (gv8 : Nat → Nat) (gv9 : Nat) (gv10 : Nat) (gv11 : Nat → Nat) (gv12 : Nat → Nat) (gv13 : Nat → Nat) (gv14 : Nat → Int) (gv15 : Nat → Int) (i16 : Int) : St := ⟨sl 27 [(0, .slice true 0 0 av0 (.exact av1) 1), (1, .slice true 1 0 bv2 (.exact bv3) 1), (5, .int .i64 (i16))], [⟨false, .hdr 2 gv4 gv5 gv6 gv7 (some gv8)⟩, ⟨false, .hdr 3 gv9 gv10 gv11 gv12 (some gv13)⟩, ⟨false, .flat 0 (.ints .i64 gv14)⟩, ⟨false, .flat 0 (.ints .i64 gv15)⟩]⟩

noncomputable def laws_eqInt64SS_shsh.sx0_0 (gv4 : Nat) (gv5 : Nat) (gv6 : Nat → Nat) (gv7 : Nat → Nat) (gv8 : Nat → Nat) (gv9 : Nat) (gv10 : Nat) (gv11 : Nat → Nat) (gv12 : Nat → Nat) (gv13 : Nat → Nat) (gv14 : Nat → Int) (gv15 : Nat → Int) : St := ⟨sl 27 [], [⟨false, .hdr 2 gv4 gv5 gv6 gv7 (some gv8)⟩, ⟨false, .hdr 3 gv9 gv10 gv11 gv12 (some gv13)⟩, ⟨false, .flat 0 (.ints .i64 gv14)⟩, ⟨false, .flat 0 (.ints .i64 gv15)⟩]⟩

theorem laws_eqInt64SS_shsh.b0_gen {ρ : Type} (N : Nat) (K : AV → Heap → Option ρ) (L0 : St → Option ρ) (kv : XE → St → Option ρ) (av0 : Nat) (av1 : Nat) (bv2 : Nat) (bv3 : Nat) (gv4 : Nat) (gv5 : Nat) (gv6 : Nat → Nat) (gv7 : Nat → Nat) (gv8 : Nat → Nat) (gv9 : Nat) (gv10 : Nat) (gv11 : Nat → Nat) (gv12 : Nat → Nat) (gv13 : Nat → Nat) (gv14 : Nat → Int) (gv15 : Nat → Int) (i16 : Int) :
    xcode (E37 N) ents laws_eqInt64SS_shsh.kp 4 N (cL (cK (cB (cA (cB (cB laws_eqInt64SS_shsh.bd)))))) 0 (laws_eqInt64SS_shsh.st0 av0 av1 bv2 bv3 gv4 gv5 gv6 gv7 gv8 gv9 gv10 gv11 gv12 gv13 gv14 gv15 i16) (roundK laws_eqInt64SS_shsh.kp 4 0 L0 (mixK (laws_eqInt64SS_shsh.fin N K gv4 gv5 gv6 gv7 gv8 gv9 gv10 gv11 gv12 gv13 gv14 gv15 .ret) kv)) = (laws_eqInt64SS_shsh.b0 N (fun d0 => K (.bool (d0)) [⟨false, .hdr 2 gv4 gv5 gv6 gv7 (some gv8)⟩, ⟨false, .hdr 3 gv9 gv10 gv11 gv12 (some gv13)⟩, ⟨false, .flat 0 (.ints .i64 gv14)⟩, ⟨false, .flat 0 (.ints .i64 gv15)⟩]) (fun i16 => L0 (laws_eqInt64SS_shsh.st0 av0 av1 bv2 bv3 gv4 gv5 gv6 gv7 gv8 gv9 gv10 gv11 gv12 gv13 gv14 gv15 i16)) (kv (.exit 0) (laws_eqInt64SS_shsh.sx0_0 gv4 gv5 gv6 gv7 gv8 gv9 gv10 gv11 gv12 gv13 gv14 gv15)) av0 bv2 gv6 gv7 gv8 gv11 gv12 gv13 gv14 gv15 i16) := by kernel_rfl

theorem laws_eqInt64SS_shsh.b0_eq {ρ : Type} (N : Nat) (K : AV → Heap → Option ρ) (L0 : St → Option ρ) (av0 : Nat) (av1 : Nat) (bv2 : Nat) (bv3 : Nat) (gv4 : Nat) (gv5 : Nat) (gv6 : Nat → Nat) (gv7 : Nat → Nat) (gv8 : Nat → Nat) (gv9 : Nat) (gv10 : Nat) (gv11 : Nat → Nat) (gv12 : Nat → Nat) (gv13 : Nat → Nat) (gv14 : Nat → Int) (gv15 : Nat → Int) (i16 : Int) :
    xcode (E37 N) ents laws_eqInt64SS_shsh.kp 4 N (cL (cK (cB (cA (cB (cB laws_eqInt64SS_shsh.bd)))))) 0 (laws_eqInt64SS_shsh.st0 av0 av1 bv2 bv3 gv4 gv5 gv6 gv7 gv8 gv9 gv10 gv11 gv12 gv13 gv14 gv15 i16) (roundK laws_eqInt64SS_shsh.kp 4 0 L0 (laws_eqInt64SS_shsh.k0 N K gv4 gv5 gv6 gv7 gv8 gv9 gv10 gv11 gv12 gv13 gv14 gv15)) = (laws_eqInt64SS_shsh.b0 N (fun d0 => K (.bool (d0)) [⟨false, .hdr 2 gv4 gv5 gv6 gv7 (some gv8)⟩, ⟨false, .hdr 3 gv9 gv10 gv11 gv12 (some gv13)⟩, ⟨false, .flat 0 (.ints .i64 gv14)⟩, ⟨false, .flat 0 (.ints .i64 gv15)⟩]) (fun i16 => L0 (laws_eqInt64SS_shsh.st0 av0 av1 bv2 bv3 gv4 gv5 gv6 gv7 gv8 gv9 gv10 gv11 gv12 gv13 gv14 gv15 i16)) ((laws_eqInt64SS_shsh.k0 N K gv4 gv5 gv6 gv7 gv8 gv9 gv10 gv11 gv12 gv13 gv14 gv15) (.exit 0) (laws_eqInt64SS_shsh.sx0_0 gv4 gv5 gv6 gv7 gv8 gv9 gv10 gv11 gv12 gv13 gv14 gv15)) av0 bv2 gv6 gv7 gv8 gv11 gv12 gv13 gv14 gv15 i16) := by
  have h := laws_eqInt64SS_shsh.b0_gen N K L0 (laws_eqInt64SS_shsh.k0 N K gv4 gv5 gv6 gv7 gv8 gv9 gv10 gv11 gv12 gv13 gv14 gv15) av0 av1 bv2 bv3 gv4 gv5 gv6 gv7 gv8 gv9 gv10 gv11 gv12 gv13 gv14 gv15 i16
  rw [laws_eqInt64SS_shsh.k0_mix] at h
  exact h

theorem laws_eqInt64SS_shsh.a0_0_eq {ρ : Type} (N : Nat) (K : AV → Heap → Option ρ) (gv4 : Nat) (gv5 : Nat) (gv6 : Nat → Nat) (gv7 : Nat → Nat) (gv8 : Nat → Nat) (gv9 : Nat) (gv10 : Nat) (gv11 : Nat → Nat) (gv12 : Nat → Nat) (gv13 : Nat → Nat) (gv14 : Nat → Int) (gv15 : Nat → Int) :
    (laws_eqInt64SS_shsh.k0 N K gv4 gv5 gv6 gv7 gv8 gv9 gv10 gv11 gv12 gv13 gv14 gv15) (.exit 0) (laws_eqInt64SS_shsh.sx0_0 gv4 gv5 gv6 gv7 gv8 gv9 gv10 gv11 gv12 gv13 gv14 gv15) = (laws_eqInt64SS_shsh.a0_0 N (fun d0 => K (.bool (d0)) [⟨false, .hdr 2 gv4 gv5 gv6 gv7 (some gv8)⟩, ⟨false, .hdr 3 gv9 gv10 gv11 gv12 (some gv13)⟩, ⟨false, .flat 0 (.ints .i64 gv14)⟩, ⟨false, .flat 0 (.ints .i64 gv15)⟩])) := by kernel_rfl

theorem laws_eqInt64SS_shsh.l0_eq {ρ : Type} (N : Nat) (K : AV → Heap → Option ρ) (av0 : Nat) (av1 : Nat) (bv2 : Nat) (bv3 : Nat) (gv4 : Nat) (gv5 : Nat) (gv6 : Nat → Nat) (gv7 : Nat → Nat) (gv8 : Nat → Nat) (gv9 : Nat) (gv10 : Nat) (gv11 : Nat → Nat) (gv12 : Nat → Nat) (gv13 : Nat → Nat) (gv14 : Nat → Int) (gv15 : Nat → Int) :
    ∀ (m : Nat) (i16 : Int), xloop (xcode (E37 N) ents laws_eqInt64SS_shsh.kp 4 N (cL (cK (cB (cA (cB (cB laws_eqInt64SS_shsh.bd)))))) 0) laws_eqInt64SS_shsh.kp 4 0 m (laws_eqInt64SS_shsh.st0 av0 av1 bv2 bv3 gv4 gv5 gv6 gv7 gv8 gv9 gv10 gv11 gv12 gv13 gv14 gv15 i16) (laws_eqInt64SS_shsh.k0 N K gv4 gv5 gv6 gv7 gv8 gv9 gv10 gv11 gv12 gv13 gv14 gv15) = (laws_eqInt64SS_shsh.l0 N (fun d0 => K (.bool (d0)) [⟨false, .hdr 2 gv4 gv5 gv6 gv7 (some gv8)⟩, ⟨false, .hdr 3 gv9 gv10 gv11 gv12 (some gv13)⟩, ⟨false, .flat 0 (.ints .i64 gv14)⟩, ⟨false, .flat 0 (.ints .i64 gv15)⟩]) av0 bv2 gv6 gv7 gv8 gv11 gv12 gv13 gv14 gv15 ((laws_eqInt64SS_shsh.k0 N K gv4 gv5 gv6 gv7 gv8 gv9 gv10 gv11 gv12 gv13 gv14 gv15) (.exit 0) (laws_eqInt64SS_shsh.sx0_0 gv4 gv5 gv6 gv7 gv8 gv9 gv10 gv11 gv12 gv13 gv14 gv15)) m i16) := by
  intro m
  induction m with
  | zero => intros; rfl
  | succ m ih =>
    intro i16
    refine (laws_eqInt64SS_shsh.b0_eq N K (fun s => xloop (xcode (E37 N) ents laws_eqInt64SS_shsh.kp 4 N (cL (cK (cB (cA (cB (cB laws_eqInt64SS_shsh.bd)))))) 0) laws_eqInt64SS_shsh.kp 4 0 m s (laws_eqInt64SS_shsh.k0 N K gv4 gv5 gv6 gv7 gv8 gv9 gv10 gv11 gv12 gv13 gv14 gv15)) av0 av1 bv2 bv3 gv4 gv5 gv6 gv7 gv8 gv9 gv10 gv11 gv12 gv13 gv14 gv15 i16).trans ?_
    simp only [ih]
    kernel_rfl

theorem laws_eqInt64SS_shsh.s_eq {ρ : Type} (N : Nat) (K : AV → Heap → Option ρ) (av0 : Nat) (av1 : Nat) (bv2 : Nat) (bv3 : Nat) (gv4 : Nat) (gv5 : Nat) (gv6 : Nat → Nat) (gv7 : Nat → Nat) (gv8 : Nat → Nat) (gv9 : Nat) (gv10 : Nat) (gv11 : Nat → Nat) (gv12 : Nat → Nat) (gv13 : Nat → Nat) (gv14 : Nat → Int) (gv15 : Nat → Int) :
    xbody (E37 N) ents laws_eqInt64SS_shsh.kp N Go.Proofs.Try.f22 laws_eqInt64SS_shsh.bd [.slice true 0 0 av0 (.exact av1) 1, .slice true 1 0 bv2 (.exact bv3) 1] [⟨false, .hdr 2 gv4 gv5 gv6 gv7 (some gv8)⟩, ⟨false, .hdr 3 gv9 gv10 gv11 gv12 (some gv13)⟩, ⟨false, .flat 0 (.ints .i64 gv14)⟩, ⟨false, .flat 0 (.ints .i64 gv15)⟩] K = (laws_eqInt64SS_shsh.s N (fun d0 => K (.bool (d0)) [⟨false, .hdr 2 gv4 gv5 gv6 gv7 (some gv8)⟩, ⟨false, .hdr 3 gv9 gv10 gv11 gv12 (some gv13)⟩, ⟨false, .flat 0 (.ints .i64 gv14)⟩, ⟨false, .flat 0 (.ints .i64 gv15)⟩]) (fun i16 => xloop (xcode (E37 N) ents laws_eqInt64SS_shsh.kp 4 N (cL (cK (cB (cA (cB (cB laws_eqInt64SS_shsh.bd)))))) 0) laws_eqInt64SS_shsh.kp 4 0 N (laws_eqInt64SS_shsh.st0 av0 av1 bv2 bv3 gv4 gv5 gv6 gv7 gv8 gv9 gv10 gv11 gv12 gv13 gv14 gv15 i16) (laws_eqInt64SS_shsh.k0 N K gv4 gv5 gv6 gv7 gv8 gv9 gv10 gv11 gv12 gv13 gv14 gv15)) av0 bv2) := by kernel_rfl

theorem laws_eqInt64SS_shsh.eq {ρ : Type} (N : Nat) (K : AV → Heap → Option ρ) (av0 : Nat) (av1 : Nat) (bv2 : Nat) (bv3 : Nat) (gv4 : Nat) (gv5 : Nat) (gv6 : Nat → Nat) (gv7 : Nat → Nat) (gv8 : Nat → Nat) (gv9 : Nat) (gv10 : Nat) (gv11 : Nat → Nat) (gv12 : Nat → Nat) (gv13 : Nat → Nat) (gv14 : Nat → Int) (gv15 : Nat → Int) :
    xbody (E37 N) ents laws_eqInt64SS_shsh.kp N Go.Proofs.Try.f22 laws_eqInt64SS_shsh.bd [.slice true 0 0 av0 (.exact av1) 1, .slice true 1 0 bv2 (.exact bv3) 1] [⟨false, .hdr 2 gv4 gv5 gv6 gv7 (some gv8)⟩, ⟨false, .hdr 3 gv9 gv10 gv11 gv12 (some gv13)⟩, ⟨false, .flat 0 (.ints .i64 gv14)⟩, ⟨false, .flat 0 (.ints .i64 gv15)⟩] K = (laws_eqInt64SS_shsh N (fun d0 => K (.bool (d0)) [⟨false, .hdr 2 gv4 gv5 gv6 gv7 (some gv8)⟩, ⟨false, .hdr 3 gv9 gv10 gv11 gv12 (some gv13)⟩, ⟨false, .flat 0 (.ints .i64 gv14)⟩, ⟨false, .flat 0 (.ints .i64 gv15)⟩]) av0 av1 bv2 bv3 gv4 gv5 gv6 gv7 gv8 gv9 gv10 gv11 gv12 gv13 gv14 gv15) := by
  refine (laws_eqInt64SS_shsh.s_eq N K av0 av1 bv2 bv3 gv4 gv5 gv6 gv7 gv8 gv9 gv10 gv11 gv12 gv13 gv14 gv15).trans ?_
  simp only [laws_eqInt64SS_shsh.l0_eq, laws_eqInt64SS_shsh.a0_0_eq]
  kernel_rfl

noncomputable def laws_eqInt64SS_shsh.en (N : Nat) (ρ : Type) : List AV → Heap → (AV → Heap → Option ρ) → Option ρ
  | [.slice true 0 0 av0 (.exact av1) 1, .slice true 1 0 bv2 (.exact bv3) 1], [⟨false, .hdr 2 gv4 gv5 gv6 gv7 (some gv8)⟩, ⟨false, .hdr 3 gv9 gv10 gv11 gv12 (some gv13)⟩, ⟨false, .flat 0 (.ints .i64 gv14)⟩, ⟨false, .flat 0 (.ints .i64 gv15)⟩], K => (laws_eqInt64SS_shsh N (fun d0 => K (.bool (d0)) [⟨false, .hdr 2 gv4 gv5 gv6 gv7 (some gv8)⟩, ⟨false, .hdr 3 gv9 gv10 gv11 gv12 (some gv13)⟩, ⟨false, .flat 0 (.ints .i64 gv14)⟩, ⟨false, .flat 0 (.ints .i64 gv15)⟩]) av0 av1 bv2 bv3 gv4 gv5 gv6 gv7 gv8 gv9 gv10 gv11 gv12 gv13 gv14 gv15)
  | _, _, _ => none

theorem laws_eqInt64SS_shsh.en_ok (N : Nat) (hE : EnvOk (E37 N) ents) (ρ : Type) (args : List AV) (sh : Heap) (K : AV → Heap → Option ρ) (r : ρ) (h : laws_eqInt64SS_shsh.en N ρ args sh K = some r) : ∃ v sh', K v sh' = some r ∧ FnOk (E37 N).P 22 args sh v sh' := by
  unfold laws_eqInt64SS_shsh.en at h
  split at h
  · exact fn_ok hE (kp := laws_eqInt64SS_shsh.kp) (N := N) Go.Proofs.Try.func22 (c := laws_eqInt64SS_shsh.bd) (by kernel_rfl) ((laws_eqInt64SS_shsh.eq N _ _ _ _ _ _ _ _ _ _ _ _ _ _ _ _ _).trans h)
  · cases h

noncomputable def E38 (N : Nat) : Env := (E37 N).add 22 (laws_eqInt64SS_shsh.en N)

theorem E38_ok (N : Nat) : EnvOk (E38 N) ents := Env.add_ok (E37_ok N) (laws_eqInt64SS_shsh.en_ok N (E37_ok N))

noncomputable def laws_intactInt64SS_shsh.kp : Keeps := ⟨[(0, [0, 1, 5, 6], [], [])], [(0, [0, 1, 5], [], [])], []⟩

noncomputable def laws_intactInt64SS_shsh.bd : Code := bodyOf Go.Proofs.Try.f9

noncomputable def laws_intactInt64SS_shsh.fin {ρ : Type} (N : Nat) (K : AV → Heap → Option ρ) (gv4 : Nat) (gv5 : Nat) (gv6 : Nat → Nat) (gv7 : Nat → Nat) (gv8 : Nat → Nat) (gv9 : Nat) (gv10 : Nat) (gv11 : Nat → Nat) (gv12 : Nat → Nat) (gv13 : Nat → Nat) (gv14 : Nat → Int) (gv15 : Nat → Int) : XE → St → Option ρ := finK (E38 N) laws_intactInt64SS_shsh.kp.fins Go.Proofs.Try.f9 [⟨false, .hdr 2 gv4 gv5 gv6 gv7 (some gv8)⟩, ⟨false, .hdr 3 gv9 gv10 gv11 gv12 (some gv13)⟩, ⟨false, .flat 0 (.ints .i64 gv14)⟩, ⟨false, .flat 0 (.ints .i64 gv15)⟩] K

noncomputable def laws_intactInt64SS_shsh.k0 {ρ : Type} (N : Nat) (K : AV → Heap → Option ρ) (gv4 : Nat) (gv5 : Nat) (gv6 : Nat → Nat) (gv7 : Nat → Nat) (gv8 : Nat → Nat) (gv9 : Nat) (gv10 : Nat) (gv11 : Nat → Nat) (gv12 : Nat → Nat) (gv13 : Nat → Nat) (gv14 : Nat → Int) (gv15 : Nat → Int) : XE → St → Option ρ := (blockK laws_intactInt64SS_shsh.kp 4 0 (seqK (xcode (E38 N) ents laws_intactInt64SS_shsh.kp 4 N (cB (cB (cB (cB laws_intactInt64SS_shsh.bd)))) 0) (laws_intactInt64SS_shsh.fin N K gv4 gv5 gv6 gv7 gv8 gv9 gv10 gv11 gv12 gv13 gv14 gv15)))

theorem laws_intactInt64SS_shsh.k0_mix {ρ : Type} (N : Nat) (K : AV → Heap → Option ρ) (gv4 : Nat) (gv5 : Nat) (gv6 : Nat → Nat) (gv7 : Nat → Nat) (gv8 : Nat → Nat) (gv9 : Nat) (gv10 : Nat) (gv11 : Nat → Nat) (gv12 : Nat → Nat) (gv13 : Nat → Nat) (gv14 : Nat → Int) (gv15 : Nat → Int) : mixK (laws_intactInt64SS_shsh.fin N K gv4 gv5 gv6 gv7 gv8 gv9 gv10 gv11 gv12 gv13 gv14 gv15 .ret) (laws_intactInt64SS_shsh.k0 N K gv4 gv5 gv6 gv7 gv8 gv9 gv10 gv11 gv12 gv13 gv14 gv15) = (laws_intactInt64SS_shsh.k0 N K gv4 gv5 gv6 gv7 gv8 gv9 gv10 gv11 gv12 gv13 gv14 gv15) := by
  funext e s; cases e <;> kernel_rfl

noncomputable def laws_intactInt64SS_shsh.st0 (x0 : Nat) (x1 : Nat) (y2 : Nat) (y3 : Nat) (gv4 : Nat) (gv5 : Nat) (gv6 : Nat → Nat) (gv7 : Nat → Nat) (gv8 : Nat → Nat) (gv9 : Nat) (gv10 : Nat) (gv11 : Nat → Nat) (gv12 : Nat → Nat) (gv13 : Nat → Nat) (gv14 : Nat → Int) (gv15 : Nat → Int) (rv16 : Int) (i17 : Int) : St := ⟨sl 45 [(0, .slice true 0 0 x0 (.exact x1) 1), (1, .slice true 1 0 y2 (.exact y3) 1), (5, .int .i64 ((IntKind.i64.wrap ((y2 : Int) + rv16)))), (6, .int .i64 (i17))], [⟨false, .hdr 2 gv4 gv5 gv6 gv7 (some gv8)⟩, ⟨false, .hdr 3 gv9 gv10 gv11 gv12 (some gv13)⟩, ⟨false, .flat 0 (.ints .i64 gv14)⟩, ⟨false, .flat 0 (.ints .i64 gv15)⟩]⟩

noncomputable def laws_intactInt64SS_shsh.sx0_0 (x0 : Nat) (x1 : Nat) (y2 : Nat) (y3 : Nat) (gv4 : Nat) (gv5 : Nat) (gv6 : Nat → Nat) (gv7 : Nat → Nat) (gv8 : Nat → Nat) (gv9 : Nat) (gv10 : Nat) (gv11 : Nat → Nat) (gv12 : Nat → Nat) (gv13 : Nat → Nat) (gv14 : Nat → Int) (gv15 : Nat → Int) (rv16 : Int) : St := ⟨sl 45 [(0, .slice true 0 0 x0 (.exact x1) 1), (1, .slice true 1 0 y2 (.exact y3) 1), (5, .int .i64 ((IntKind.i64.wrap ((y2 : Int) + rv16))))], [⟨false, .hdr 2 gv4 gv5 gv6 gv7 (some gv8)⟩, ⟨false, .hdr 3 gv9 gv10 gv11 gv12 (some gv13)⟩, ⟨false, .flat 0 (.ints .i64 gv14)⟩, ⟨false, .flat 0 (.ints .i64 gv15)⟩]⟩

theorem laws_intactInt64SS_shsh.b0_gen {ρ : Type} (N : Nat) (K : AV → Heap → Option ρ) (L0 : St → Option ρ) (kv : XE → St → Option ρ) (x0 : Nat) (x1 : Nat) (y2 : Nat) (y3 : Nat) (gv4 : Nat) (gv5 : Nat) (gv6 : Nat → Nat) (gv7 : Nat → Nat) (gv8 : Nat → Nat) (gv9 : Nat) (gv10 : Nat) (gv11 : Nat → Nat) (gv12 : Nat → Nat) (gv13 : Nat → Nat) (gv14 : Nat → Int) (gv15 : Nat → Int) (rv16 : Int) (i17 : Int) :
    xcode (E38 N) ents laws_intactInt64SS_shsh.kp 4 N (cL (cK (cB (cA (cB (cB (cB laws_intactInt64SS_shsh.bd))))))) 0 (laws_intactInt64SS_shsh.st0 x0 x1 y2 y3 gv4 gv5 gv6 gv7 gv8 gv9 gv10 gv11 gv12 gv13 gv14 gv15 rv16 i17) (roundK laws_intactInt64SS_shsh.kp 4 0 L0 (mixK (laws_intactInt64SS_shsh.fin N K gv4 gv5 gv6 gv7 gv8 gv9 gv10 gv11 gv12 gv13 gv14 gv15 .ret) kv)) = (laws_intactInt64SS_shsh.b0 N (fun d0 => K (.bool (d0)) [⟨false, .hdr 2 gv4 gv5 gv6 gv7 (some gv8)⟩, ⟨false, .hdr 3 gv9 gv10 gv11 gv12 (some gv13)⟩, ⟨false, .flat 0 (.ints .i64 gv14)⟩, ⟨false, .flat 0 (.ints .i64 gv15)⟩]) (fun i17 => L0 (laws_intactInt64SS_shsh.st0 x0 x1 y2 y3 gv4 gv5 gv6 gv7 gv8 gv9 gv10 gv11 gv12 gv13 gv14 gv15 rv16 i17)) (kv (.exit 0) (laws_intactInt64SS_shsh.sx0_0 x0 x1 y2 y3 gv4 gv5 gv6 gv7 gv8 gv9 gv10 gv11 gv12 gv13 gv14 gv15 rv16)) x0 y2 gv6 gv7 gv8 gv11 gv12 gv13 gv14 gv15 i17) := by kernel_rfl

theorem laws_intactInt64SS_shsh.b0_eq {ρ : Type} (N : Nat) (K : AV → Heap → Option ρ) (L0 : St → Option ρ) (x0 : Nat) (x1 : Nat) (y2 : Nat) (y3 : Nat) (gv4 : Nat) (gv5 : Nat) (gv6 : Nat → Nat) (gv7 : Nat → Nat) (gv8 : Nat → Nat) (gv9 : Nat) (gv10 : Nat) (gv11 : Nat → Nat) (gv12 : Nat → Nat) (gv13 : Nat → Nat) (gv14 : Nat → Int) (gv15 : Nat → Int) (rv16 : Int) (i17 : Int) :
    xcode (E38 N) ents laws_intactInt64SS_shsh.kp 4 N (cL (cK (cB (cA (cB (cB (cB laws_intactInt64SS_shsh.bd))))))) 0 (laws_intactInt64SS_shsh.st0 x0 x1 y2 y3 gv4 gv5 gv6 gv7 gv8 gv9 gv10 gv11 gv12 gv13 gv14 gv15 rv16 i17) (roundK laws_intactInt64SS_shsh.kp 4 0 L0 (laws_intactInt64SS_shsh.k0 N K gv4 gv5 gv6 gv7 gv8 gv9 gv10 gv11 gv12 gv13 gv14 gv15)) = (laws_intactInt64SS_shsh.b0 N (fun d0 => K (.bool (d0)) [⟨false, .hdr 2 gv4 gv5 gv6 gv7 (some gv8)⟩, ⟨false, .hdr 3 gv9 gv10 gv11 gv12 (some gv13)⟩, ⟨false, .flat 0 (.ints .i64 gv14)⟩, ⟨false, .flat 0 (.ints .i64 gv15)⟩]) (fun i17 => L0 (laws_intactInt64SS_shsh.st0 x0 x1 y2 y3 gv4 gv5 gv6 gv7 gv8 gv9 gv10 gv11 gv12 gv13 gv14 gv15 rv16 i17)) ((laws_intactInt64SS_shsh.k0 N K gv4 gv5 gv6 gv7 gv8 gv9 gv10 gv11 gv12 gv13 gv14 gv15) (.exit 0) (laws_intactInt64SS_shsh.sx0_0 x0 x1 y2 y3 gv4 gv5 gv6 gv7 gv8 gv9 gv10 gv11 gv12 gv13 gv14 gv15 rv16)) x0 y2 gv6 gv7 gv8 gv11 gv12 gv13 gv14 gv15 i17) := by
  have h := laws_intactInt64SS_shsh.b0_gen N K L0 (laws_intactInt64SS_shsh.k0 N K gv4 gv5 gv6 gv7 gv8 gv9 gv10 gv11 gv12 gv13 gv14 gv15) x0 x1 y2 y3 gv4 gv5 gv6 gv7 gv8 gv9 gv10 gv11 gv12 gv13 gv14 gv15 rv16 i17
  rw [laws_intactInt64SS_shsh.k0_mix] at h
  exact h

theorem laws_intactInt64SS_shsh.a0_0_eq {ρ : Type} (N : Nat) (K : AV → Heap → Option ρ) (x0 : Nat) (x1 : Nat) (y2 : Nat) (y3 : Nat) (gv4 : Nat) (gv5 : Nat) (gv6 : Nat → Nat) (gv7 : Nat → Nat) (gv8 : Nat → Nat) (gv9 : Nat) (gv10 : Nat) (gv11 : Nat → Nat) (gv12 : Nat → Nat) (gv13 : Nat → Nat) (gv14 : Nat → Int) (gv15 : Nat → Int) (rv16 : Int) :
    (laws_intactInt64SS_shsh.k0 N K gv4 gv5 gv6 gv7 gv8 gv9 gv10 gv11 gv12 gv13 gv14 gv15) (.exit 0) (laws_intactInt64SS_shsh.sx0_0 x0 x1 y2 y3 gv4 gv5 gv6 gv7 gv8 gv9 gv10 gv11 gv12 gv13 gv14 gv15 rv16) = (laws_intactInt64SS_shsh.a0_0 N (fun d0 => K (.bool (d0)) [⟨false, .hdr 2 gv4 gv5 gv6 gv7 (some gv8)⟩, ⟨false, .hdr 3 gv9 gv10 gv11 gv12 (some gv13)⟩, ⟨false, .flat 0 (.ints .i64 gv14)⟩, ⟨false, .flat 0 (.ints .i64 gv15)⟩]) x1 y2 y3 gv5 gv6 gv7 gv8 gv10 gv11 gv12 gv13 gv14 gv15 rv16) := by kernel_rfl

theorem laws_intactInt64SS_shsh.l0_eq {ρ : Type} (N : Nat) (K : AV → Heap → Option ρ) (x0 : Nat) (x1 : Nat) (y2 : Nat) (y3 : Nat) (gv4 : Nat) (gv5 : Nat) (gv6 : Nat → Nat) (gv7 : Nat → Nat) (gv8 : Nat → Nat) (gv9 : Nat) (gv10 : Nat) (gv11 : Nat → Nat) (gv12 : Nat → Nat) (gv13 : Nat → Nat) (gv14 : Nat → Int) (gv15 : Nat → Int) (rv16 : Int) :
    ∀ (m : Nat) (i17 : Int), xloop (xcode (E38 N) ents laws_intactInt64SS_shsh.kp 4 N (cL (cK (cB (cA (cB (cB (cB laws_intactInt64SS_shsh.bd))))))) 0) laws_intactInt64SS_shsh.kp 4 0 m (laws_intactInt64SS_shsh.st0 x0 x1 y2 y3 gv4 gv5 gv6 gv7 gv8 gv9 gv10 gv11 gv12 gv13 gv14 gv15 rv16 i17) (laws_intactInt64SS_shsh.k0 N K gv4 gv5 gv6 gv7 gv8 gv9 gv10 gv11 gv12 gv13 gv14 gv15) = (laws_intactInt64SS_shsh.l0 N (fun d0 => K (.bool (d0)) [⟨false, .hdr 2 gv4 gv5 gv6 gv7 (some gv8)⟩, ⟨false, .hdr 3 gv9 gv10 gv11 gv12 (some gv13)⟩, ⟨false, .flat 0 (.ints .i64 gv14)⟩, ⟨false, .flat 0 (.ints .i64 gv15)⟩]) x0 y2 gv6 gv7 gv8 gv11 gv12 gv13 gv14 gv15 ((laws_intactInt64SS_shsh.k0 N K gv4 gv5 gv6 gv7 gv8 gv9 gv10 gv11 gv12 gv13 gv14 gv15) (.exit 0) (laws_intactInt64SS_shsh.sx0_0 x0 x1 y2 y3 gv4 gv5 gv6 gv7 gv8 gv9 gv10 gv11 gv12 gv13 gv14 gv15 rv16)) m i17) := by
  intro m
  induction m with
  | zero => intros; rfl
  | succ m ih =>
    intro i17
    refine (laws_intactInt64SS_shsh.b0_eq N K (fun s => xloop (xcode (E38 N) ents laws_intactInt64SS_shsh.kp 4 N (cL (cK (cB (cA (cB (cB (cB laws_intactInt64SS_shsh.bd))))))) 0) laws_intactInt64SS_shsh.kp 4 0 m s (laws_intactInt64SS_shsh.k0 N K gv4 gv5 gv6 gv7 gv8 gv9 gv10 gv11 gv12 gv13 gv14 gv15)) x0 x1 y2 y3 gv4 gv5 gv6 gv7 gv8 gv9 gv10 gv11 gv12 gv13 gv14 gv15 rv16 i17).trans ?_
    simp only [ih]
    kernel_rfl

theorem laws_intactInt64SS_shsh.s_eq {ρ : Type} (N : Nat) (K : AV → Heap → Option ρ) (x0 : Nat) (x1 : Nat) (y2 : Nat) (y3 : Nat) (gv4 : Nat) (gv5 : Nat) (gv6 : Nat → Nat) (gv7 : Nat → Nat) (gv8 : Nat → Nat) (gv9 : Nat) (gv10 : Nat) (gv11 : Nat → Nat) (gv12 : Nat → Nat) (gv13 : Nat → Nat) (gv14 : Nat → Int) (gv15 : Nat → Int) :
    xbody (E38 N) ents laws_intactInt64SS_shsh.kp N Go.Proofs.Try.f9 laws_intactInt64SS_shsh.bd [.slice true 0 0 x0 (.exact x1) 1, .slice true 1 0 y2 (.exact y3) 1] [⟨false, .hdr 2 gv4 gv5 gv6 gv7 (some gv8)⟩, ⟨false, .hdr 3 gv9 gv10 gv11 gv12 (some gv13)⟩, ⟨false, .flat 0 (.ints .i64 gv14)⟩, ⟨false, .flat 0 (.ints .i64 gv15)⟩] K = (laws_intactInt64SS_shsh.s N (fun d0 => K (.bool (d0)) [⟨false, .hdr 2 gv4 gv5 gv6 gv7 (some gv8)⟩, ⟨false, .hdr 3 gv9 gv10 gv11 gv12 (some gv13)⟩, ⟨false, .flat 0 (.ints .i64 gv14)⟩, ⟨false, .flat 0 (.ints .i64 gv15)⟩]) (fun rv16 i17 => xloop (xcode (E38 N) ents laws_intactInt64SS_shsh.kp 4 N (cL (cK (cB (cA (cB (cB (cB laws_intactInt64SS_shsh.bd))))))) 0) laws_intactInt64SS_shsh.kp 4 0 N (laws_intactInt64SS_shsh.st0 x0 x1 y2 y3 gv4 gv5 gv6 gv7 gv8 gv9 gv10 gv11 gv12 gv13 gv14 gv15 rv16 i17) (laws_intactInt64SS_shsh.k0 N K gv4 gv5 gv6 gv7 gv8 gv9 gv10 gv11 gv12 gv13 gv14 gv15)) x0 y2) := by kernel_rfl

theorem laws_intactInt64SS_shsh.eq {ρ : Type} (N : Nat) (K : AV → Heap → Option ρ) (x0 : Nat) (x1 : Nat) (y2 : Nat) (y3 : Nat) (gv4 : Nat) (gv5 : Nat) (gv6 : Nat → Nat) (gv7 : Nat → Nat) (gv8 : Nat → Nat) (gv9 : Nat) (gv10 : Nat) (gv11 : Nat → Nat) (gv12 : Nat → Nat) (gv13 : Nat → Nat) (gv14 : Nat → Int) (gv15 : Nat → Int) :
    xbody (E38 N) ents laws_intactInt64SS_shsh.kp N Go.Proofs.Try.f9 laws_intactInt64SS_shsh.bd [.slice true 0 0 x0 (.exact x1) 1, .slice true 1 0 y2 (.exact y3) 1] [⟨false, .hdr 2 gv4 gv5 gv6 gv7 (some gv8)⟩, ⟨false, .hdr 3 gv9 gv10 gv11 gv12 (some gv13)⟩, ⟨false, .flat 0 (.ints .i64 gv14)⟩, ⟨false, .flat 0 (.ints .i64 gv15)⟩] K = (laws_intactInt64SS_shsh N (fun d0 => K (.bool (d0)) [⟨false, .hdr 2 gv4 gv5 gv6 gv7 (some gv8)⟩, ⟨false, .hdr 3 gv9 gv10 gv11 gv12 (some gv13)⟩, ⟨false, .flat 0 (.ints .i64 gv14)⟩, ⟨false, .flat 0 (.ints .i64 gv15)⟩]) x0 x1 y2 y3 gv4 gv5 gv6 gv7 gv8 gv9 gv10 gv11 gv12 gv13 gv14 gv15) := by
  refine (laws_intactInt64SS_shsh.s_eq N K x0 x1 y2 y3 gv4 gv5 gv6 gv7 gv8 gv9 gv10 gv11 gv12 gv13 gv14 gv15).trans ?_
  simp only [laws_intactInt64SS_shsh.l0_eq, laws_intactInt64SS_shsh.a0_0_eq]
  kernel_rfl

noncomputable def laws_intactInt64SS_shsh.en (N : Nat) (ρ : Type) : List AV → Heap → (AV → Heap → Option ρ) → Option ρ
  | [.slice true 0 0 x0 (.exact x1) 1, .slice true 1 0 y2 (.exact y3) 1], [⟨false, .hdr 2 gv4 gv5 gv6 gv7 (some gv8)⟩, ⟨false, .hdr 3 gv9 gv10 gv11 gv12 (some gv13)⟩, ⟨false, .flat 0 (.ints .i64 gv14)⟩, ⟨false, .flat 0 (.ints .i64 gv15)⟩], K => (laws_intactInt64SS_shsh N (fun d0 => K (.bool (d0)) [⟨false, .hdr 2 gv4 gv5 gv6 gv7 (some gv8)⟩, ⟨false, .hdr 3 gv9 gv10 gv11 gv12 (some gv13)⟩, ⟨false, .flat 0 (.ints .i64 gv14)⟩, ⟨false, .flat 0 (.ints .i64 gv15)⟩]) x0 x1 y2 y3 gv4 gv5 gv6 gv7 gv8 gv9 gv10 gv11 gv12 gv13 gv14 gv15)
  | _, _, _ => none

theorem laws_intactInt64SS_shsh.en_ok (N : Nat) (hE : EnvOk (E38 N) ents) (ρ : Type) (args : List AV) (sh : Heap) (K : AV → Heap → Option ρ) (r : ρ) (h : laws_intactInt64SS_shsh.en N ρ args sh K = some r) : ∃ v sh', K v sh' = some r ∧ FnOk (E38 N).P 9 args sh v sh' := by
  unfold laws_intactInt64SS_shsh.en at h
  split at h
  · exact fn_ok hE (kp := laws_intactInt64SS_shsh.kp) (N := N) Go.Proofs.Try.func9 (c := laws_intactInt64SS_shsh.bd) (by kernel_rfl) ((laws_intactInt64SS_shsh.eq N _ _ _ _ _ _ _ _ _ _ _ _ _ _ _ _ _).trans h)
  · cases h

noncomputable def E39 (N : Nat) : Env := (E38 N).add 9 (laws_intactInt64SS_shsh.en N)

theorem E39_ok (N : Nat) : EnvOk (E39 N) ents := Env.add_ok (E38_ok N) (laws_intactInt64SS_shsh.en_ok N (E38_ok N))

noncomputable def laws_FnExactFunctionsHopf_suh.kp : Keeps := ⟨[], [], []⟩

noncomputable def laws_FnExactFunctionsHopf_suh.bd : Code := bodyOf Go.Proofs.Try.f3

noncomputable def laws_FnExactFunctionsHopf_suh.fin {ρ : Type} (N : Nat) (K : AV → Heap → Option ρ) (gv2 : Nat) (gv3 : Nat) (gv4 : Nat → Nat) (gv5 : Nat → Nat) (gv6 : Nat) (gv7 : Nat → Int) : XE → St → Option ρ := finK (E39 N) laws_FnExactFunctionsHopf_suh.kp.fins Go.Proofs.Try.f3 [⟨false, .hdr 1 gv2 gv3 gv4 gv5 none⟩, ⟨false, .flat gv6 (.ints .i64 gv7)⟩] K

theorem laws_FnExactFunctionsHopf_suh.eq {ρ : Type} (N : Nat) (K : AV → Heap → Option ρ) (aP0 : Int) (aTable1 : Nat) (gv2 : Nat) (gv3 : Nat) (gv4 : Nat → Nat) (gv5 : Nat → Nat) (gv6 : Nat) (gv7 : Nat → Int) :
    xbody (E39 N) ents laws_FnExactFunctionsHopf_suh.kp N Go.Proofs.Try.f3 laws_FnExactFunctionsHopf_suh.bd [.int .i64 (aP0), .slice false 0 0 aTable1 .unk 1] [⟨false, .hdr 1 gv2 gv3 gv4 gv5 none⟩, ⟨false, .flat gv6 (.ints .i64 gv7)⟩] K = (laws_FnExactFunctionsHopf_suh N (fun d0 => K (.bool (d0)) [⟨false, .hdr 1 gv2 gv3 gv4 gv5 none⟩, ⟨false, .flat gv6 (.ints .i64 gv7)⟩]) aP0 aTable1 gv2 gv3 gv4 gv5 gv6 gv7) := by kernel_rfl

noncomputable def laws_FnExactFunctionsHopf_suh.en (N : Nat) (ρ : Type) : List AV → Heap → (AV → Heap → Option ρ) → Option ρ
  | [.int .i64 (aP0), .slice false 0 0 aTable1 .unk 1], [⟨false, .hdr 1 gv2 gv3 gv4 gv5 none⟩, ⟨false, .flat gv6 (.ints .i64 gv7)⟩], K => (laws_FnExactFunctionsHopf_suh N (fun d0 => K (.bool (d0)) [⟨false, .hdr 1 gv2 gv3 gv4 gv5 none⟩, ⟨false, .flat gv6 (.ints .i64 gv7)⟩]) aP0 aTable1 gv2 gv3 gv4 gv5 gv6 gv7)
  | _, _, _ => none

theorem laws_FnExactFunctionsHopf_suh.en_ok (N : Nat) (hE : EnvOk (E39 N) ents) (ρ : Type) (args : List AV) (sh : Heap) (K : AV → Heap → Option ρ) (r : ρ) (h : laws_FnExactFunctionsHopf_suh.en N ρ args sh K = some r) : ∃ v sh', K v sh' = some r ∧ FnOk (E39 N).P 3 args sh v sh' := by
  unfold laws_FnExactFunctionsHopf_suh.en at h
  split at h
  · exact fn_ok hE (kp := laws_FnExactFunctionsHopf_suh.kp) (N := N) Go.Proofs.Try.func3 (c := laws_FnExactFunctionsHopf_suh.bd) (by kernel_rfl) ((laws_FnExactFunctionsHopf_suh.eq N _ _ _ _ _ _ _ _ _).trans h)
  · cases h

noncomputable def E40 (N : Nat) : Env := (E39 N).add 3 (laws_FnExactFunctionsHopf_suh.en N)

theorem E40_ok (N : Nat) : EnvOk (E40 N) ents := Env.add_ok (E39_ok N) (laws_FnExactFunctionsHopf_suh.en_ok N (E39_ok N))
end Go.Proofs.Ytgfmgfgjpobndaa.H
