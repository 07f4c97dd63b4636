/- The program computes these functions. -/
import Derived.Test.YtmjpfchbkolcbaaHL3
namespace Go.Proofs.Ytmjpfchbkolcbaa.H
set_option linter.unusedVariables false
set_option linter.unusedSimpArgs false
open Go Go.RowKit Go.Proofs.Ytmjpfchbkolcbaa.Hx
set_option linter.unusedVariables false
set_option maxRecDepth 100000
noncomputable def impl_ProductAlgebra.kp : Keeps := ⟨[(0, [3, 4, 7, 8, 57, 58], 10), (2, [3, 4, 7, 8, 10, 57, 58, 62, 63], 10)], [(0, [4, 8], 10), (2, [3, 4, 7, 8, 57, 58], 10)]⟩

noncomputable def impl_ProductAlgebra.bd : Code := bodyOf Go.Proofs.Try.f42

noncomputable def impl_ProductAlgebra.fin {ρ : Type} (N : Nat) (K : AV → Heap → Option ρ) : XE → St → Option ρ := finK (E84 N) Go.Proofs.Try.f42 [] K

noncomputable def impl_ProductAlgebra.k0 {ρ : Type} (N : Nat) (K : AV → Heap → Option ρ) : XE → St → Option ρ := (blockK impl_ProductAlgebra.kp 0 0 (seqK (xcode (E84 N) ents impl_ProductAlgebra.kp 0 N (cB (cB (cB (cB (cB (cB (cB (cB (cB impl_ProductAlgebra.bd))))))))) 0) (impl_ProductAlgebra.fin N K)))

theorem impl_ProductAlgebra.k0_mix {ρ : Type} (N : Nat) (K : AV → Heap → Option ρ) : mixK (impl_ProductAlgebra.fin N K .ret) (impl_ProductAlgebra.k0 N K) = (impl_ProductAlgebra.k0 N K) := by
  funext e s; cases e <;> rfl

noncomputable def impl_ProductAlgebra.st0 (a0 : Nat → Int) (a1 : Nat → Int) (b2 : Nat → Int) (b3 : Nat → Int) (r4 : Int) (r5 : Int) (r6 : Int) (r7 : Int) (r9 : Nat → Int) (x12 : Int) (g13 : Nat → Int) : St := ⟨sl 86 [(3, .sptr [(2, 2), (3, 520)]), (4, .sptr [(4, 2), (5, 520)]), (7, .int .i64 ((a0 1))), (8, .sptr [(7, 2), (8, 520)]), (57, .int .i64 ((b2 1))), (58, .int .i64 (x12))], [⟨true, .ints .i64 2 a0⟩, ⟨true, .ints .u8 520 a1⟩, ⟨true, .ints .i64 2 b2⟩, ⟨true, .ints .u8 520 b3⟩, ⟨true, .ints .i64 2 (fun _ => 0)⟩, ⟨true, .ints .u8 520 (fun _ => 0)⟩, ⟨true, .ints .i64 4 (upd (upd (upd (upd (fun _ => 0) 0 r4) 1 r5) 2 r6) 3 r7)⟩, ⟨true, .ints .i64 2 (upd (upd (fun _ => 0) 0 (a0 0)) 1 (IntKind.i64.wrap ((a0 1) + (b2 1))))⟩, ⟨true, .ints .u8 520 g13⟩, ⟨true, .ints .i64 2 r9⟩]⟩

noncomputable def impl_ProductAlgebra.sx0_0 (a0 : Nat → Int) (a1 : Nat → Int) (b2 : Nat → Int) (b3 : Nat → Int) (r4 : Int) (r5 : Int) (r6 : Int) (r7 : Int) (r9 : Nat → Int) (o18 : Nat → Int) : St := ⟨sl 86 [(4, .sptr [(4, 2), (5, 520)]), (8, .sptr [(7, 2), (8, 520)])], [⟨true, .ints .i64 2 a0⟩, ⟨true, .ints .u8 520 a1⟩, ⟨true, .ints .i64 2 b2⟩, ⟨true, .ints .u8 520 b3⟩, ⟨true, .ints .i64 2 (fun _ => 0)⟩, ⟨true, .ints .u8 520 (fun _ => 0)⟩, ⟨true, .ints .i64 4 (upd (upd (upd (upd (fun _ => 0) 0 r4) 1 r5) 2 r6) 3 r7)⟩, ⟨true, .ints .i64 2 (upd (upd (fun _ => 0) 0 (a0 0)) 1 (IntKind.i64.wrap ((a0 1) + (b2 1))))⟩, ⟨true, .ints .u8 520 o18⟩, ⟨true, .ints .i64 2 r9⟩]⟩

noncomputable def impl_ProductAlgebra.k1g {ρ : Type} (N : Nat) (L0 : St → Option ρ) (kv : XE → St → Option ρ) : XE → St → Option ρ := (blockK impl_ProductAlgebra.kp 0 2 (blockK impl_ProductAlgebra.kp 0 1 (seqK (xcode (E84 N) ents impl_ProductAlgebra.kp 0 N (cB (cB (cB (cL (cK (cB (cA (cB (cB (cB (cB (cB (cB (cB (cB impl_ProductAlgebra.bd))))))))))))))) 0) (roundK impl_ProductAlgebra.kp 0 0 L0 kv))))

theorem impl_ProductAlgebra.k1_mix {ρ : Type} (N : Nat) (K : AV → Heap → Option ρ) (L0 : St → Option ρ) : mixK (impl_ProductAlgebra.fin N K .ret) (impl_ProductAlgebra.k1g N L0 (impl_ProductAlgebra.k0 N K)) = (impl_ProductAlgebra.k1g N L0 (impl_ProductAlgebra.k0 N K)) := by
  funext e s; cases e <;> rfl

noncomputable def impl_ProductAlgebra.st1 (a0 : Nat → Int) (a1 : Nat → Int) (b2 : Nat → Int) (b3 : Nat → Int) (r4 : Int) (r5 : Int) (r6 : Int) (r7 : Int) (r9 : Nat → Int) (x12 : Int) (x14 : Int) (g15 : Nat → Int) : St := ⟨sl 86 [(3, .sptr [(2, 2), (3, 520)]), (4, .sptr [(4, 2), (5, 520)]), (7, .int .i64 ((a0 1))), (8, .sptr [(7, 2), (8, 520)]), (10, .int .i64 (x12)), (57, .int .i64 ((b2 1))), (58, .int .i64 (x12)), (62, .int .i64 ((b2 1))), (63, .int .i64 (x14))], [⟨true, .ints .i64 2 a0⟩, ⟨true, .ints .u8 520 a1⟩, ⟨true, .ints .i64 2 b2⟩, ⟨true, .ints .u8 520 b3⟩, ⟨true, .ints .i64 2 (fun _ => 0)⟩, ⟨true, .ints .u8 520 (fun _ => 0)⟩, ⟨true, .ints .i64 4 (upd (upd (upd (upd (fun _ => 0) 0 r4) 1 r5) 2 r6) 3 r7)⟩, ⟨true, .ints .i64 2 (upd (upd (fun _ => 0) 0 (a0 0)) 1 (IntKind.i64.wrap ((a0 1) + (b2 1))))⟩, ⟨true, .ints .u8 520 g15⟩, ⟨true, .ints .i64 2 r9⟩]⟩

noncomputable def impl_ProductAlgebra.sx1_0 (a0 : Nat → Int) (a1 : Nat → Int) (b2 : Nat → Int) (b3 : Nat → Int) (r4 : Int) (r5 : Int) (r6 : Int) (r7 : Int) (r9 : Nat → Int) (x12 : Int) (o17 : Nat → Int) : St := ⟨sl 86 [(3, .sptr [(2, 2), (3, 520)]), (4, .sptr [(4, 2), (5, 520)]), (7, .int .i64 ((a0 1))), (8, .sptr [(7, 2), (8, 520)]), (57, .int .i64 ((b2 1))), (58, .int .i64 (x12))], [⟨true, .ints .i64 2 a0⟩, ⟨true, .ints .u8 520 a1⟩, ⟨true, .ints .i64 2 b2⟩, ⟨true, .ints .u8 520 b3⟩, ⟨true, .ints .i64 2 (fun _ => 0)⟩, ⟨true, .ints .u8 520 (fun _ => 0)⟩, ⟨true, .ints .i64 4 (upd (upd (upd (upd (fun _ => 0) 0 r4) 1 r5) 2 r6) 3 r7)⟩, ⟨true, .ints .i64 2 (upd (upd (fun _ => 0) 0 (a0 0)) 1 (IntKind.i64.wrap ((a0 1) + (b2 1))))⟩, ⟨true, .ints .u8 520 o17⟩, ⟨true, .ints .i64 2 r9⟩]⟩

theorem impl_ProductAlgebra.b1_gen {ρ : Type} (N : Nat) (K : AV → Heap → Option ρ) (L1 : St → Option ρ) (kv : XE → St → Option ρ) (a0 : Nat → Int) (a1 : Nat → Int) (b2 : Nat → Int) (b3 : Nat → Int) (r4 : Int) (r5 : Int) (r6 : Int) (r7 : Int) (r9 : Nat → Int) (x12 : Int) (x14 : Int) (g15 : Nat → Int) :
    xcode (E84 N) ents impl_ProductAlgebra.kp 0 N (cL (cK (cB (cB (cK (cA (cB (cB (cL (cK (cB (cA (cB (cB (cB (cB (cB (cB (cB (cB impl_ProductAlgebra.bd)))))))))))))))))))) 2 (impl_ProductAlgebra.st1 a0 a1 b2 b3 r4 r5 r6 r7 r9 x12 x14 g15) (roundK impl_ProductAlgebra.kp 0 2 L1 (mixK (impl_ProductAlgebra.fin N K .ret) kv)) = (impl_ProductAlgebra.b1 N (fun d0 d1 d2 => K (.tup [.agg [⟨.i64, 2, d0⟩, ⟨.u8, 520, d1⟩], .int .i64 (d2)]) []) (fun x14 g15 => L1 (impl_ProductAlgebra.st1 a0 a1 b2 b3 r4 r5 r6 r7 r9 x12 x14 g15)) (fun o17 => kv (.exit 2) (impl_ProductAlgebra.sx1_0 a0 a1 b2 b3 r4 r5 r6 r7 r9 x12 o17)) a0 b2 b3 x12 x14 g15) := by kernel_rfl

theorem impl_ProductAlgebra.b1_eq {ρ : Type} (N : Nat) (K : AV → Heap → Option ρ) (L0 : St → Option ρ) (L1 : St → Option ρ) (a0 : Nat → Int) (a1 : Nat → Int) (b2 : Nat → Int) (b3 : Nat → Int) (r4 : Int) (r5 : Int) (r6 : Int) (r7 : Int) (r9 : Nat → Int) (x12 : Int) (x14 : Int) (g15 : Nat → Int) :
    xcode (E84 N) ents impl_ProductAlgebra.kp 0 N (cL (cK (cB (cB (cK (cA (cB (cB (cL (cK (cB (cA (cB (cB (cB (cB (cB (cB (cB (cB impl_ProductAlgebra.bd)))))))))))))))))))) 2 (impl_ProductAlgebra.st1 a0 a1 b2 b3 r4 r5 r6 r7 r9 x12 x14 g15) (roundK impl_ProductAlgebra.kp 0 2 L1 (impl_ProductAlgebra.k1g N L0 (impl_ProductAlgebra.k0 N K))) = (impl_ProductAlgebra.b1 N (fun d0 d1 d2 => K (.tup [.agg [⟨.i64, 2, d0⟩, ⟨.u8, 520, d1⟩], .int .i64 (d2)]) []) (fun x14 g15 => L1 (impl_ProductAlgebra.st1 a0 a1 b2 b3 r4 r5 r6 r7 r9 x12 x14 g15)) (fun o17 => (impl_ProductAlgebra.k1g N L0 (impl_ProductAlgebra.k0 N K)) (.exit 2) (impl_ProductAlgebra.sx1_0 a0 a1 b2 b3 r4 r5 r6 r7 r9 x12 o17)) a0 b2 b3 x12 x14 g15) := by
  have h := impl_ProductAlgebra.b1_gen N K L1 (impl_ProductAlgebra.k1g N L0 (impl_ProductAlgebra.k0 N K)) a0 a1 b2 b3 r4 r5 r6 r7 r9 x12 x14 g15
  rw [impl_ProductAlgebra.k1_mix] at h
  exact h

theorem impl_ProductAlgebra.a1_0_gen {ρ : Type} (N : Nat) (K : AV → Heap → Option ρ) (L0 : St → Option ρ) (kv : XE → St → Option ρ) (a0 : Nat → Int) (a1 : Nat → Int) (b2 : Nat → Int) (b3 : Nat → Int) (r4 : Int) (r5 : Int) (r6 : Int) (r7 : Int) (r9 : Nat → Int) (x12 : Int) (o17 : Nat → Int) :
    (impl_ProductAlgebra.k1g N L0 (mixK (impl_ProductAlgebra.fin N K .ret) kv)) (.exit 2) (impl_ProductAlgebra.sx1_0 a0 a1 b2 b3 r4 r5 r6 r7 r9 x12 o17) = (impl_ProductAlgebra.a1_0 N (fun d0 d1 d2 => K (.tup [.agg [⟨.i64, 2, d0⟩, ⟨.u8, 520, d1⟩], .int .i64 (d2)]) []) (fun x12 g13 => L0 (impl_ProductAlgebra.st0 a0 a1 b2 b3 r4 r5 r6 r7 r9 x12 g13)) (fun o18 => kv (.exit 0) (impl_ProductAlgebra.sx0_0 a0 a1 b2 b3 r4 r5 r6 r7 r9 o18)) x12 o17) := by kernel_rfl

theorem impl_ProductAlgebra.a1_0_eq {ρ : Type} (N : Nat) (K : AV → Heap → Option ρ) (L0 : St → Option ρ) (a0 : Nat → Int) (a1 : Nat → Int) (b2 : Nat → Int) (b3 : Nat → Int) (r4 : Int) (r5 : Int) (r6 : Int) (r7 : Int) (r9 : Nat → Int) (x12 : Int) (o17 : Nat → Int) :
    (impl_ProductAlgebra.k1g N L0 (impl_ProductAlgebra.k0 N K)) (.exit 2) (impl_ProductAlgebra.sx1_0 a0 a1 b2 b3 r4 r5 r6 r7 r9 x12 o17) = (impl_ProductAlgebra.a1_0 N (fun d0 d1 d2 => K (.tup [.agg [⟨.i64, 2, d0⟩, ⟨.u8, 520, d1⟩], .int .i64 (d2)]) []) (fun x12 g13 => L0 (impl_ProductAlgebra.st0 a0 a1 b2 b3 r4 r5 r6 r7 r9 x12 g13)) (fun o18 => (impl_ProductAlgebra.k0 N K) (.exit 0) (impl_ProductAlgebra.sx0_0 a0 a1 b2 b3 r4 r5 r6 r7 r9 o18)) x12 o17) := by
  have h := impl_ProductAlgebra.a1_0_gen N K L0 (impl_ProductAlgebra.k0 N K) a0 a1 b2 b3 r4 r5 r6 r7 r9 x12 o17
  rw [impl_ProductAlgebra.k0_mix] at h
  exact h

theorem impl_ProductAlgebra.b0_gen {ρ : Type} (N : Nat) (K : AV → Heap → Option ρ) (L0 : St → Option ρ) (kv : XE → St → Option ρ) (a0 : Nat → Int) (a1 : Nat → Int) (b2 : Nat → Int) (b3 : Nat → Int) (r4 : Int) (r5 : Int) (r6 : Int) (r7 : Int) (r9 : Nat → Int) (x12 : Int) (g13 : Nat → Int) :
    xcode (E84 N) ents impl_ProductAlgebra.kp 0 N (cL (cK (cB (cA (cB (cB (cB (cB (cB (cB (cB (cB impl_ProductAlgebra.bd)))))))))))) 0 (impl_ProductAlgebra.st0 a0 a1 b2 b3 r4 r5 r6 r7 r9 x12 g13) (roundK impl_ProductAlgebra.kp 0 0 L0 (mixK (impl_ProductAlgebra.fin N K .ret) kv)) = (impl_ProductAlgebra.b0 N (fun d0 d1 d2 => K (.tup [.agg [⟨.i64, 2, d0⟩, ⟨.u8, 520, d1⟩], .int .i64 (d2)]) []) (fun x14 g15 => xloop (xcode (E84 N) ents impl_ProductAlgebra.kp 0 N (cL (cK (cB (cB (cK (cA (cB (cB (cL (cK (cB (cA (cB (cB (cB (cB (cB (cB (cB (cB impl_ProductAlgebra.bd)))))))))))))))))))) 2) impl_ProductAlgebra.kp 0 2 N (impl_ProductAlgebra.st1 a0 a1 b2 b3 r4 r5 r6 r7 r9 x12 x14 g15) (impl_ProductAlgebra.k1g N L0 (mixK (impl_ProductAlgebra.fin N K .ret) kv))) (fun x12 g13 => L0 (impl_ProductAlgebra.st0 a0 a1 b2 b3 r4 r5 r6 r7 r9 x12 g13)) (fun o18 => kv (.exit 0) (impl_ProductAlgebra.sx0_0 a0 a1 b2 b3 r4 r5 r6 r7 r9 o18)) b2 x12 g13) := by kernel_rfl

theorem impl_ProductAlgebra.b0_eq {ρ : Type} (N : Nat) (K : AV → Heap → Option ρ) (L0 : St → Option ρ) (a0 : Nat → Int) (a1 : Nat → Int) (b2 : Nat → Int) (b3 : Nat → Int) (r4 : Int) (r5 : Int) (r6 : Int) (r7 : Int) (r9 : Nat → Int) (x12 : Int) (g13 : Nat → Int) :
    xcode (E84 N) ents impl_ProductAlgebra.kp 0 N (cL (cK (cB (cA (cB (cB (cB (cB (cB (cB (cB (cB impl_ProductAlgebra.bd)))))))))))) 0 (impl_ProductAlgebra.st0 a0 a1 b2 b3 r4 r5 r6 r7 r9 x12 g13) (roundK impl_ProductAlgebra.kp 0 0 L0 (impl_ProductAlgebra.k0 N K)) = (impl_ProductAlgebra.b0 N (fun d0 d1 d2 => K (.tup [.agg [⟨.i64, 2, d0⟩, ⟨.u8, 520, d1⟩], .int .i64 (d2)]) []) (fun x14 g15 => xloop (xcode (E84 N) ents impl_ProductAlgebra.kp 0 N (cL (cK (cB (cB (cK (cA (cB (cB (cL (cK (cB (cA (cB (cB (cB (cB (cB (cB (cB (cB impl_ProductAlgebra.bd)))))))))))))))))))) 2) impl_ProductAlgebra.kp 0 2 N (impl_ProductAlgebra.st1 a0 a1 b2 b3 r4 r5 r6 r7 r9 x12 x14 g15) (impl_ProductAlgebra.k1g N L0 (impl_ProductAlgebra.k0 N K))) (fun x12 g13 => L0 (impl_ProductAlgebra.st0 a0 a1 b2 b3 r4 r5 r6 r7 r9 x12 g13)) (fun o18 => (impl_ProductAlgebra.k0 N K) (.exit 0) (impl_ProductAlgebra.sx0_0 a0 a1 b2 b3 r4 r5 r6 r7 r9 o18)) b2 x12 g13) := by
  have h := impl_ProductAlgebra.b0_gen N K L0 (impl_ProductAlgebra.k0 N K) a0 a1 b2 b3 r4 r5 r6 r7 r9 x12 g13
  rw [impl_ProductAlgebra.k0_mix] at h
  exact h

theorem impl_ProductAlgebra.a0_0_eq {ρ : Type} (N : Nat) (K : AV → Heap → Option ρ) (a0 : Nat → Int) (a1 : Nat → Int) (b2 : Nat → Int) (b3 : Nat → Int) (r4 : Int) (r5 : Int) (r6 : Int) (r7 : Int) (r9 : Nat → Int) (o18 : Nat → Int) :
    (impl_ProductAlgebra.k0 N K) (.exit 0) (impl_ProductAlgebra.sx0_0 a0 a1 b2 b3 r4 r5 r6 r7 r9 o18) = (impl_ProductAlgebra.a0_0 N (fun d0 d1 d2 => K (.tup [.agg [⟨.i64, 2, d0⟩, ⟨.u8, 520, d1⟩], .int .i64 (d2)]) []) a0 b2 o18) := by kernel_rfl

theorem impl_ProductAlgebra.l1_eq {ρ : Type} (N : Nat) (K : AV → Heap → Option ρ) (L0 : St → Option ρ) (a0 : Nat → Int) (a1 : Nat → Int) (b2 : Nat → Int) (b3 : Nat → Int) (r4 : Int) (r5 : Int) (r6 : Int) (r7 : Int) (r9 : Nat → Int) (x12 : Int) :
    ∀ (m : Nat) (x14 : Int) (g15 : Nat → Int), xloop (xcode (E84 N) ents impl_ProductAlgebra.kp 0 N (cL (cK (cB (cB (cK (cA (cB (cB (cL (cK (cB (cA (cB (cB (cB (cB (cB (cB (cB (cB impl_ProductAlgebra.bd)))))))))))))))))))) 2) impl_ProductAlgebra.kp 0 2 m (impl_ProductAlgebra.st1 a0 a1 b2 b3 r4 r5 r6 r7 r9 x12 x14 g15) (impl_ProductAlgebra.k1g N L0 (impl_ProductAlgebra.k0 N K)) = (impl_ProductAlgebra.l1 N (fun d0 d1 d2 => K (.tup [.agg [⟨.i64, 2, d0⟩, ⟨.u8, 520, d1⟩], .int .i64 (d2)]) []) a0 b2 b3 x12 (fun o17 => (impl_ProductAlgebra.k1g N L0 (impl_ProductAlgebra.k0 N K)) (.exit 2) (impl_ProductAlgebra.sx1_0 a0 a1 b2 b3 r4 r5 r6 r7 r9 x12 o17)) m x14 g15) := by
  intro m
  induction m with
  | zero => intros; rfl
  | succ m ih =>
    intro x14 g15
    refine (impl_ProductAlgebra.b1_eq N K L0 (fun s => xloop (xcode (E84 N) ents impl_ProductAlgebra.kp 0 N (cL (cK (cB (cB (cK (cA (cB (cB (cL (cK (cB (cA (cB (cB (cB (cB (cB (cB (cB (cB impl_ProductAlgebra.bd)))))))))))))))))))) 2) impl_ProductAlgebra.kp 0 2 m s (impl_ProductAlgebra.k1g N L0 (impl_ProductAlgebra.k0 N K))) a0 a1 b2 b3 r4 r5 r6 r7 r9 x12 x14 g15).trans ?_
    simp only [ih]
    kernel_rfl

theorem impl_ProductAlgebra.l0_eq {ρ : Type} (N : Nat) (K : AV → Heap → Option ρ) (a0 : Nat → Int) (a1 : Nat → Int) (b2 : Nat → Int) (b3 : Nat → Int) (r4 : Int) (r5 : Int) (r6 : Int) (r7 : Int) (r9 : Nat → Int) :
    ∀ (m : Nat) (x12 : Int) (g13 : Nat → Int), xloop (xcode (E84 N) ents impl_ProductAlgebra.kp 0 N (cL (cK (cB (cA (cB (cB (cB (cB (cB (cB (cB (cB impl_ProductAlgebra.bd)))))))))))) 0) impl_ProductAlgebra.kp 0 0 m (impl_ProductAlgebra.st0 a0 a1 b2 b3 r4 r5 r6 r7 r9 x12 g13) (impl_ProductAlgebra.k0 N K) = (impl_ProductAlgebra.l0 N (fun d0 d1 d2 => K (.tup [.agg [⟨.i64, 2, d0⟩, ⟨.u8, 520, d1⟩], .int .i64 (d2)]) []) a0 b2 b3 (fun o18 => (impl_ProductAlgebra.k0 N K) (.exit 0) (impl_ProductAlgebra.sx0_0 a0 a1 b2 b3 r4 r5 r6 r7 r9 o18)) m x12 g13) := by
  intro m
  induction m with
  | zero => intros; rfl
  | succ m ih =>
    intro x12 g13
    refine (impl_ProductAlgebra.b0_eq N K (fun s => xloop (xcode (E84 N) ents impl_ProductAlgebra.kp 0 N (cL (cK (cB (cA (cB (cB (cB (cB (cB (cB (cB (cB impl_ProductAlgebra.bd)))))))))))) 0) impl_ProductAlgebra.kp 0 0 m s (impl_ProductAlgebra.k0 N K)) a0 a1 b2 b3 r4 r5 r6 r7 r9 x12 g13).trans ?_
    simp only [ih, impl_ProductAlgebra.l1_eq, impl_ProductAlgebra.a1_0_eq]
    kernel_rfl

theorem impl_ProductAlgebra.s_eq {ρ : Type} (N : Nat) (K : AV → Heap → Option ρ) (a0 : Nat → Int) (a1 : Nat → Int) (b2 : Nat → Int) (b3 : Nat → Int) :
    xbody (E84 N) ents impl_ProductAlgebra.kp N Go.Proofs.Try.f42 impl_ProductAlgebra.bd [.agg [⟨.i64, 2, a0⟩, ⟨.u8, 520, a1⟩], .agg [⟨.i64, 2, b2⟩, ⟨.u8, 520, b3⟩]] [] K = (impl_ProductAlgebra.s N (fun d0 d1 d2 => K (.tup [.agg [⟨.i64, 2, d0⟩, ⟨.u8, 520, d1⟩], .int .i64 (d2)]) []) (fun r4 r5 r6 r7 r9 x12 g13 => xloop (xcode (E84 N) ents impl_ProductAlgebra.kp 0 N (cL (cK (cB (cA (cB (cB (cB (cB (cB (cB (cB (cB impl_ProductAlgebra.bd)))))))))))) 0) impl_ProductAlgebra.kp 0 0 N (impl_ProductAlgebra.st0 a0 a1 b2 b3 r4 r5 r6 r7 r9 x12 g13) (impl_ProductAlgebra.k0 N K)) a0 a1 b2 b3) := by kernel_rfl

theorem impl_ProductAlgebra.eq {ρ : Type} (N : Nat) (K : AV → Heap → Option ρ) (a0 : Nat → Int) (a1 : Nat → Int) (b2 : Nat → Int) (b3 : Nat → Int) :
    xbody (E84 N) ents impl_ProductAlgebra.kp N Go.Proofs.Try.f42 impl_ProductAlgebra.bd [.agg [⟨.i64, 2, a0⟩, ⟨.u8, 520, a1⟩], .agg [⟨.i64, 2, b2⟩, ⟨.u8, 520, b3⟩]] [] K = (impl_ProductAlgebra N (fun d0 d1 d2 => K (.tup [.agg [⟨.i64, 2, d0⟩, ⟨.u8, 520, d1⟩], .int .i64 (d2)]) []) a0 a1 b2 b3) := by
  refine (impl_ProductAlgebra.s_eq N K a0 a1 b2 b3).trans ?_
  simp only [impl_ProductAlgebra.l0_eq, impl_ProductAlgebra.a0_0_eq]
  kernel_rfl

noncomputable def impl_ProductAlgebra.en (N : Nat) (ρ : Type) : List AV → Heap → (AV → Heap → Option ρ) → Option ρ
  | [.agg [⟨.i64, 2, a0⟩, ⟨.u8, 520, a1⟩], .agg [⟨.i64, 2, b2⟩, ⟨.u8, 520, b3⟩]], [], K => (impl_ProductAlgebra N (fun d0 d1 d2 => K (.tup [.agg [⟨.i64, 2, d0⟩, ⟨.u8, 520, d1⟩], .int .i64 (d2)]) []) a0 a1 b2 b3)
  | _, _, _ => none

theorem impl_ProductAlgebra.en_ok (N : Nat) (hE : EnvOk (E84 N) ents) (ρ : Type) (args : List AV) (sh : Heap) (K : AV → Heap → Option ρ) (r : ρ) (h : impl_ProductAlgebra.en N ρ args sh K = some r) : ∃ v sh', K v sh' = some r ∧ FnOk (E84 N).P 42 args sh v sh' := by
  unfold impl_ProductAlgebra.en at h
  split at h
  · exact fn_ok hE (kp := impl_ProductAlgebra.kp) (N := N) Go.Proofs.Try.func42 (c := impl_ProductAlgebra.bd) (by kernel_rfl) ((impl_ProductAlgebra.eq N _ _ _ _ _).trans h)
  · cases h

noncomputable def E85 (N : Nat) : Env := (E84 N).add 42 (impl_ProductAlgebra.en N)

theorem E85_ok (N : Nat) : EnvOk (E85 N) ents := Env.add_ok (E84_ok N) (impl_ProductAlgebra.en_ok N (E84_ok N))

noncomputable def laws_FnExactProductAlgebra.kp : Keeps := ⟨[], []⟩

noncomputable def laws_FnExactProductAlgebra.bd : Code := bodyOf Go.Proofs.Try.f12

noncomputable def laws_FnExactProductAlgebra.fin {ρ : Type} (N : Nat) (K : AV → Heap → Option ρ) : XE → St → Option ρ := finK (E85 N) Go.Proofs.Try.f12 [] K

theorem laws_FnExactProductAlgebra.eq {ρ : Type} (N : Nat) (K : AV → Heap → Option ρ) (aA0 : Nat → Int) (aA1 : Nat → Int) (aB2 : Nat → Int) (aB3 : Nat → Int) :
    xbody (E85 N) ents laws_FnExactProductAlgebra.kp N Go.Proofs.Try.f12 laws_FnExactProductAlgebra.bd [.agg [⟨.i64, 2, aA0⟩, ⟨.u8, 520, aA1⟩], .agg [⟨.i64, 2, aB2⟩, ⟨.u8, 520, aB3⟩]] [] K = (laws_FnExactProductAlgebra N (fun d0 => K (.bool (d0)) []) aA0 aA1 aB2 aB3) := by kernel_rfl

noncomputable def laws_FnExactProductAlgebra.en (N : Nat) (ρ : Type) : List AV → Heap → (AV → Heap → Option ρ) → Option ρ
  | [.agg [⟨.i64, 2, aA0⟩, ⟨.u8, 520, aA1⟩], .agg [⟨.i64, 2, aB2⟩, ⟨.u8, 520, aB3⟩]], [], K => (laws_FnExactProductAlgebra N (fun d0 => K (.bool (d0)) []) aA0 aA1 aB2 aB3)
  | _, _, _ => none

theorem laws_FnExactProductAlgebra.en_ok (N : Nat) (hE : EnvOk (E85 N) ents) (ρ : Type) (args : List AV) (sh : Heap) (K : AV → Heap → Option ρ) (r : ρ) (h : laws_FnExactProductAlgebra.en N ρ args sh K = some r) : ∃ v sh', K v sh' = some r ∧ FnOk (E85 N).P 12 args sh v sh' := by
  unfold laws_FnExactProductAlgebra.en at h
  split at h
  · exact fn_ok hE (kp := laws_FnExactProductAlgebra.kp) (N := N) Go.Proofs.Try.func12 (c := laws_FnExactProductAlgebra.bd) (by kernel_rfl) ((laws_FnExactProductAlgebra.eq N _ _ _ _ _).trans h)
  · cases h

noncomputable def E86 (N : Nat) : Env := (E85 N).add 12 (laws_FnExactProductAlgebra.en N)

theorem E86_ok (N : Nat) : EnvOk (E86 N) ents := Env.add_ok (E85_ok N) (laws_FnExactProductAlgebra.en_ok N (E85_ok N))
end Go.Proofs.Ytmjpfchbkolcbaa.H
