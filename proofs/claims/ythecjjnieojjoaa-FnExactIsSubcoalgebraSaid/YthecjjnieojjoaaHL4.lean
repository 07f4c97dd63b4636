/- The program computes these functions. -/
import Derived.Test.YthecjjnieojjoaaHL3
namespace Go.Proofs.Ythecjjnieojjoaa.H
set_option linter.unusedVariables false
set_option linter.unusedSimpArgs false
open Go Go.RowKit Go.Proofs.Ythecjjnieojjoaa.Hy
set_option linter.unusedVariables false
set_option maxRecDepth 100000
noncomputable def impl_Coalgebra_coproduct.kp : Keeps := ⟨[(0, [0, 4, 5, 6, 13, 14], [], []), (2, [0, 4, 5, 6, 7, 8, 13, 14, 19, 20], [], [])], [(0, [4, 6], [], []), (2, [0, 4, 5, 6, 13, 14], [], [])], []⟩

noncomputable def impl_Coalgebra_coproduct.bd : Code := bodyOf Go.Proofs.Try.f68

noncomputable def impl_Coalgebra_coproduct.fin {ρ : Type} (N : Nat) (K : AV → Heap → Option ρ) (gv1 : Nat → Int) (gv2 : Nat → Int) : XE → St → Option ρ := finK (E67 N) impl_Coalgebra_coproduct.kp.fins Go.Proofs.Try.f68 [⟨false, .flat 2 (.ints .i64 gv1)⟩, ⟨false, .flat 520 (.ints .u8 gv2)⟩] K

noncomputable def impl_Coalgebra_coproduct.k0 {ρ : Type} (N : Nat) (K : AV → Heap → Option ρ) (gv1 : Nat → Int) (gv2 : Nat → Int) : XE → St → Option ρ := (blockK impl_Coalgebra_coproduct.kp 2 0 (seqK (xcode (E67 N) ents impl_Coalgebra_coproduct.kp 2 N (cB (cB (cB impl_Coalgebra_coproduct.bd))) 0) (impl_Coalgebra_coproduct.fin N K gv1 gv2)))

theorem impl_Coalgebra_coproduct.k0_mix {ρ : Type} (N : Nat) (K : AV → Heap → Option ρ) (gv1 : Nat → Int) (gv2 : Nat → Int) : mixK (impl_Coalgebra_coproduct.fin N K gv1 gv2 .ret) (impl_Coalgebra_coproduct.k0 N K gv1 gv2) = (impl_Coalgebra_coproduct.k0 N K gv1 gv2) := by
  funext e s; cases e <;> kernel_rfl

noncomputable def impl_Coalgebra_coproduct.st0 (v0 : Nat → Int) (gv1 : Nat → Int) (gv2 : Nat → Int) (rv3 : Nat → Int) (x4 : Int) (gv5 : Nat → Int) : St := ⟨sl 40 [(0, .sptr [(0, 2), (1, 520)]), (4, .sptr [(2, 64)]), (5, .sptr [(3, 2)]), (6, .sptr [(4, 64)]), (13, .agg [⟨.u8, 8, v0⟩]), (14, .int .i64 (x4))], [⟨false, .flat 2 (.ints .i64 gv1)⟩, ⟨false, .flat 520 (.ints .u8 gv2)⟩, ⟨true, .flat 64 (.ints .u8 (fun _ => 0))⟩, ⟨true, .flat 2 (.ints .i64 rv3)⟩, ⟨true, .flat 64 (.ints .u8 gv5)⟩]⟩

noncomputable def impl_Coalgebra_coproduct.sx0_0 (gv1 : Nat → Int) (gv2 : Nat → Int) (ov10 : Nat → Int) : St := ⟨sl 40 [(4, .sptr [(2, 64)]), (6, .sptr [(3, 64)])], [⟨false, .flat 2 (.ints .i64 gv1)⟩, ⟨false, .flat 520 (.ints .u8 gv2)⟩, ⟨true, .flat 64 (.ints .u8 (fun _ => 0))⟩, ⟨true, .flat 64 (.ints .u8 ov10)⟩]⟩

noncomputable def impl_Coalgebra_coproduct.k1g {ρ : Type} (N : Nat) (L0 : St → Option ρ) (kv : XE → St → Option ρ) : XE → St → Option ρ := (blockK impl_Coalgebra_coproduct.kp 2 2 (blockK impl_Coalgebra_coproduct.kp 2 1 (seqK (xcode (E67 N) ents impl_Coalgebra_coproduct.kp 2 N (cB (cB (cB (cL (cK (cB (cA (cB (cB impl_Coalgebra_coproduct.bd))))))))) 0) (roundK impl_Coalgebra_coproduct.kp 2 0 L0 kv))))

theorem impl_Coalgebra_coproduct.k1_mix {ρ : Type} (N : Nat) (K : AV → Heap → Option ρ) (L0 : St → Option ρ) (gv1 : Nat → Int) (gv2 : Nat → Int) : mixK (impl_Coalgebra_coproduct.fin N K gv1 gv2 .ret) (impl_Coalgebra_coproduct.k1g N L0 (impl_Coalgebra_coproduct.k0 N K gv1 gv2)) = (impl_Coalgebra_coproduct.k1g N L0 (impl_Coalgebra_coproduct.k0 N K gv1 gv2)) := by
  funext e s; cases e <;> kernel_rfl

noncomputable def impl_Coalgebra_coproduct.st1 (v0 : Nat → Int) (gv1 : Nat → Int) (gv2 : Nat → Int) (rv3 : Nat → Int) (x4 : Int) (x6 : Int) (gv7 : Nat → Int) : St := ⟨sl 40 [(0, .sptr [(0, 2), (1, 520)]), (4, .sptr [(2, 64)]), (5, .sptr [(3, 2)]), (6, .sptr [(4, 64)]), (7, .int .i64 (x4)), (8, .int .u8 ((v0 x4.toNat))), (13, .agg [⟨.u8, 8, v0⟩]), (14, .int .i64 (x4)), (19, .int .i64 ((rv3 1))), (20, .int .i64 (x6))], [⟨false, .flat 2 (.ints .i64 gv1)⟩, ⟨false, .flat 520 (.ints .u8 gv2)⟩, ⟨true, .flat 64 (.ints .u8 (fun _ => 0))⟩, ⟨true, .flat 2 (.ints .i64 rv3)⟩, ⟨true, .flat 64 (.ints .u8 gv7)⟩]⟩

noncomputable def impl_Coalgebra_coproduct.sx1_0 (v0 : Nat → Int) (gv1 : Nat → Int) (gv2 : Nat → Int) (rv3 : Nat → Int) (x4 : Int) (ov9 : Nat → Int) : St := ⟨sl 40 [(0, .sptr [(0, 2), (1, 520)]), (4, .sptr [(2, 64)]), (5, .sptr [(3, 2)]), (6, .sptr [(4, 64)]), (13, .agg [⟨.u8, 8, v0⟩]), (14, .int .i64 (x4))], [⟨false, .flat 2 (.ints .i64 gv1)⟩, ⟨false, .flat 520 (.ints .u8 gv2)⟩, ⟨true, .flat 64 (.ints .u8 (fun _ => 0))⟩, ⟨true, .flat 2 (.ints .i64 rv3)⟩, ⟨true, .flat 64 (.ints .u8 ov9)⟩]⟩

theorem impl_Coalgebra_coproduct.b1_gen {ρ : Type} (N : Nat) (K : AV → Heap → Option ρ) (L1 : St → Option ρ) (kv : XE → St → Option ρ) (v0 : Nat → Int) (gv1 : Nat → Int) (gv2 : Nat → Int) (rv3 : Nat → Int) (x4 : Int) (x6 : Int) (gv7 : Nat → Int) :
    xcode (E67 N) ents impl_Coalgebra_coproduct.kp 2 N (cL (cK (cB (cB (cK (cA (cB (cB (cL (cK (cB (cA (cB (cB impl_Coalgebra_coproduct.bd)))))))))))))) 2 (impl_Coalgebra_coproduct.st1 v0 gv1 gv2 rv3 x4 x6 gv7) (roundK impl_Coalgebra_coproduct.kp 2 2 L1 (mixK (impl_Coalgebra_coproduct.fin N K gv1 gv2 .ret) kv)) = (impl_Coalgebra_coproduct.b1 N (fun d0 => K (.agg [⟨.u8, 64, d0⟩]) [⟨false, .flat 2 (.ints .i64 gv1)⟩, ⟨false, .flat 520 (.ints .u8 gv2)⟩]) (fun x6 gv7 => L1 (impl_Coalgebra_coproduct.st1 v0 gv1 gv2 rv3 x4 x6 gv7)) (fun ov9 => kv (.exit 2) (impl_Coalgebra_coproduct.sx1_0 v0 gv1 gv2 rv3 x4 ov9)) v0 gv2 rv3 x4 x6 gv7) := by kernel_rfl

theorem impl_Coalgebra_coproduct.b1_eq {ρ : Type} (N : Nat) (K : AV → Heap → Option ρ) (L0 : St → Option ρ) (L1 : St → Option ρ) (v0 : Nat → Int) (gv1 : Nat → Int) (gv2 : Nat → Int) (rv3 : Nat → Int) (x4 : Int) (x6 : Int) (gv7 : Nat → Int) :
    xcode (E67 N) ents impl_Coalgebra_coproduct.kp 2 N (cL (cK (cB (cB (cK (cA (cB (cB (cL (cK (cB (cA (cB (cB impl_Coalgebra_coproduct.bd)))))))))))))) 2 (impl_Coalgebra_coproduct.st1 v0 gv1 gv2 rv3 x4 x6 gv7) (roundK impl_Coalgebra_coproduct.kp 2 2 L1 (impl_Coalgebra_coproduct.k1g N L0 (impl_Coalgebra_coproduct.k0 N K gv1 gv2))) = (impl_Coalgebra_coproduct.b1 N (fun d0 => K (.agg [⟨.u8, 64, d0⟩]) [⟨false, .flat 2 (.ints .i64 gv1)⟩, ⟨false, .flat 520 (.ints .u8 gv2)⟩]) (fun x6 gv7 => L1 (impl_Coalgebra_coproduct.st1 v0 gv1 gv2 rv3 x4 x6 gv7)) (fun ov9 => (impl_Coalgebra_coproduct.k1g N L0 (impl_Coalgebra_coproduct.k0 N K gv1 gv2)) (.exit 2) (impl_Coalgebra_coproduct.sx1_0 v0 gv1 gv2 rv3 x4 ov9)) v0 gv2 rv3 x4 x6 gv7) := by
  have h := impl_Coalgebra_coproduct.b1_gen N K L1 (impl_Coalgebra_coproduct.k1g N L0 (impl_Coalgebra_coproduct.k0 N K gv1 gv2)) v0 gv1 gv2 rv3 x4 x6 gv7
  rw [impl_Coalgebra_coproduct.k1_mix] at h
  exact h

theorem impl_Coalgebra_coproduct.a1_0_gen {ρ : Type} (N : Nat) (K : AV → Heap → Option ρ) (L0 : St → Option ρ) (kv : XE → St → Option ρ) (v0 : Nat → Int) (gv1 : Nat → Int) (gv2 : Nat → Int) (rv3 : Nat → Int) (x4 : Int) (ov9 : Nat → Int) :
    (impl_Coalgebra_coproduct.k1g N L0 (mixK (impl_Coalgebra_coproduct.fin N K gv1 gv2 .ret) kv)) (.exit 2) (impl_Coalgebra_coproduct.sx1_0 v0 gv1 gv2 rv3 x4 ov9) = (impl_Coalgebra_coproduct.a1_0 N (fun d0 => K (.agg [⟨.u8, 64, d0⟩]) [⟨false, .flat 2 (.ints .i64 gv1)⟩, ⟨false, .flat 520 (.ints .u8 gv2)⟩]) (fun x4 gv5 => L0 (impl_Coalgebra_coproduct.st0 v0 gv1 gv2 rv3 x4 gv5)) (fun ov10 => kv (.exit 0) (impl_Coalgebra_coproduct.sx0_0 gv1 gv2 ov10)) x4 ov9) := by kernel_rfl

theorem impl_Coalgebra_coproduct.a1_0_eq {ρ : Type} (N : Nat) (K : AV → Heap → Option ρ) (L0 : St → Option ρ) (v0 : Nat → Int) (gv1 : Nat → Int) (gv2 : Nat → Int) (rv3 : Nat → Int) (x4 : Int) (ov9 : Nat → Int) :
    (impl_Coalgebra_coproduct.k1g N L0 (impl_Coalgebra_coproduct.k0 N K gv1 gv2)) (.exit 2) (impl_Coalgebra_coproduct.sx1_0 v0 gv1 gv2 rv3 x4 ov9) = (impl_Coalgebra_coproduct.a1_0 N (fun d0 => K (.agg [⟨.u8, 64, d0⟩]) [⟨false, .flat 2 (.ints .i64 gv1)⟩, ⟨false, .flat 520 (.ints .u8 gv2)⟩]) (fun x4 gv5 => L0 (impl_Coalgebra_coproduct.st0 v0 gv1 gv2 rv3 x4 gv5)) (fun ov10 => (impl_Coalgebra_coproduct.k0 N K gv1 gv2) (.exit 0) (impl_Coalgebra_coproduct.sx0_0 gv1 gv2 ov10)) x4 ov9) := by
  have h := impl_Coalgebra_coproduct.a1_0_gen N K L0 (impl_Coalgebra_coproduct.k0 N K gv1 gv2) v0 gv1 gv2 rv3 x4 ov9
  rw [impl_Coalgebra_coproduct.k0_mix] at h
  exact h

theorem impl_Coalgebra_coproduct.b0_gen {ρ : Type} (N : Nat) (K : AV → Heap → Option ρ) (L0 : St → Option ρ) (kv : XE → St → Option ρ) (v0 : Nat → Int) (gv1 : Nat → Int) (gv2 : Nat → Int) (rv3 : Nat → Int) (x4 : Int) (gv5 : Nat → Int) :
    xcode (E67 N) ents impl_Coalgebra_coproduct.kp 2 N (cL (cK (cB (cA (cB (cB impl_Coalgebra_coproduct.bd)))))) 0 (impl_Coalgebra_coproduct.st0 v0 gv1 gv2 rv3 x4 gv5) (roundK impl_Coalgebra_coproduct.kp 2 0 L0 (mixK (impl_Coalgebra_coproduct.fin N K gv1 gv2 .ret) kv)) = (impl_Coalgebra_coproduct.b0 N (fun d0 => K (.agg [⟨.u8, 64, d0⟩]) [⟨false, .flat 2 (.ints .i64 gv1)⟩, ⟨false, .flat 520 (.ints .u8 gv2)⟩]) (fun x6 gv7 => xloop (xcode (E67 N) ents impl_Coalgebra_coproduct.kp 2 N (cL (cK (cB (cB (cK (cA (cB (cB (cL (cK (cB (cA (cB (cB impl_Coalgebra_coproduct.bd)))))))))))))) 2) impl_Coalgebra_coproduct.kp 2 2 N (impl_Coalgebra_coproduct.st1 v0 gv1 gv2 rv3 x4 x6 gv7) (impl_Coalgebra_coproduct.k1g N L0 (mixK (impl_Coalgebra_coproduct.fin N K gv1 gv2 .ret) kv))) (fun x4 gv5 => L0 (impl_Coalgebra_coproduct.st0 v0 gv1 gv2 rv3 x4 gv5)) (fun ov10 => kv (.exit 0) (impl_Coalgebra_coproduct.sx0_0 gv1 gv2 ov10)) x4 gv5) := by kernel_rfl

theorem impl_Coalgebra_coproduct.b0_eq {ρ : Type} (N : Nat) (K : AV → Heap → Option ρ) (L0 : St → Option ρ) (v0 : Nat → Int) (gv1 : Nat → Int) (gv2 : Nat → Int) (rv3 : Nat → Int) (x4 : Int) (gv5 : Nat → Int) :
    xcode (E67 N) ents impl_Coalgebra_coproduct.kp 2 N (cL (cK (cB (cA (cB (cB impl_Coalgebra_coproduct.bd)))))) 0 (impl_Coalgebra_coproduct.st0 v0 gv1 gv2 rv3 x4 gv5) (roundK impl_Coalgebra_coproduct.kp 2 0 L0 (impl_Coalgebra_coproduct.k0 N K gv1 gv2)) = (impl_Coalgebra_coproduct.b0 N (fun d0 => K (.agg [⟨.u8, 64, d0⟩]) [⟨false, .flat 2 (.ints .i64 gv1)⟩, ⟨false, .flat 520 (.ints .u8 gv2)⟩]) (fun x6 gv7 => xloop (xcode (E67 N) ents impl_Coalgebra_coproduct.kp 2 N (cL (cK (cB (cB (cK (cA (cB (cB (cL (cK (cB (cA (cB (cB impl_Coalgebra_coproduct.bd)))))))))))))) 2) impl_Coalgebra_coproduct.kp 2 2 N (impl_Coalgebra_coproduct.st1 v0 gv1 gv2 rv3 x4 x6 gv7) (impl_Coalgebra_coproduct.k1g N L0 (impl_Coalgebra_coproduct.k0 N K gv1 gv2))) (fun x4 gv5 => L0 (impl_Coalgebra_coproduct.st0 v0 gv1 gv2 rv3 x4 gv5)) (fun ov10 => (impl_Coalgebra_coproduct.k0 N K gv1 gv2) (.exit 0) (impl_Coalgebra_coproduct.sx0_0 gv1 gv2 ov10)) x4 gv5) := by
  have h := impl_Coalgebra_coproduct.b0_gen N K L0 (impl_Coalgebra_coproduct.k0 N K gv1 gv2) v0 gv1 gv2 rv3 x4 gv5
  rw [impl_Coalgebra_coproduct.k0_mix] at h
  exact h

theorem impl_Coalgebra_coproduct.a0_0_eq {ρ : Type} (N : Nat) (K : AV → Heap → Option ρ) (gv1 : Nat → Int) (gv2 : Nat → Int) (ov10 : Nat → Int) :
    (impl_Coalgebra_coproduct.k0 N K gv1 gv2) (.exit 0) (impl_Coalgebra_coproduct.sx0_0 gv1 gv2 ov10) = (impl_Coalgebra_coproduct.a0_0 N (fun d0 => K (.agg [⟨.u8, 64, d0⟩]) [⟨false, .flat 2 (.ints .i64 gv1)⟩, ⟨false, .flat 520 (.ints .u8 gv2)⟩]) ov10) := by kernel_rfl

theorem impl_Coalgebra_coproduct.l1_eq {ρ : Type} (N : Nat) (K : AV → Heap → Option ρ) (L0 : St → Option ρ) (v0 : Nat → Int) (gv1 : Nat → Int) (gv2 : Nat → Int) (rv3 : Nat → Int) (x4 : Int) :
    ∀ (m : Nat) (x6 : Int) (gv7 : Nat → Int), xloop (xcode (E67 N) ents impl_Coalgebra_coproduct.kp 2 N (cL (cK (cB (cB (cK (cA (cB (cB (cL (cK (cB (cA (cB (cB impl_Coalgebra_coproduct.bd)))))))))))))) 2) impl_Coalgebra_coproduct.kp 2 2 m (impl_Coalgebra_coproduct.st1 v0 gv1 gv2 rv3 x4 x6 gv7) (impl_Coalgebra_coproduct.k1g N L0 (impl_Coalgebra_coproduct.k0 N K gv1 gv2)) = (impl_Coalgebra_coproduct.l1 N (fun d0 => K (.agg [⟨.u8, 64, d0⟩]) [⟨false, .flat 2 (.ints .i64 gv1)⟩, ⟨false, .flat 520 (.ints .u8 gv2)⟩]) v0 gv2 rv3 x4 (fun ov9 => (impl_Coalgebra_coproduct.k1g N L0 (impl_Coalgebra_coproduct.k0 N K gv1 gv2)) (.exit 2) (impl_Coalgebra_coproduct.sx1_0 v0 gv1 gv2 rv3 x4 ov9)) m x6 gv7) := by
  intro m
  induction m with
  | zero => intros; rfl
  | succ m ih =>
    intro x6 gv7
    refine (impl_Coalgebra_coproduct.b1_eq N K L0 (fun s => xloop (xcode (E67 N) ents impl_Coalgebra_coproduct.kp 2 N (cL (cK (cB (cB (cK (cA (cB (cB (cL (cK (cB (cA (cB (cB impl_Coalgebra_coproduct.bd)))))))))))))) 2) impl_Coalgebra_coproduct.kp 2 2 m s (impl_Coalgebra_coproduct.k1g N L0 (impl_Coalgebra_coproduct.k0 N K gv1 gv2))) v0 gv1 gv2 rv3 x4 x6 gv7).trans ?_
    simp only [ih]
    kernel_rfl

theorem impl_Coalgebra_coproduct.l0_eq {ρ : Type} (N : Nat) (K : AV → Heap → Option ρ) (v0 : Nat → Int) (gv1 : Nat → Int) (gv2 : Nat → Int) (rv3 : Nat → Int) :
    ∀ (m : Nat) (x4 : Int) (gv5 : Nat → Int), xloop (xcode (E67 N) ents impl_Coalgebra_coproduct.kp 2 N (cL (cK (cB (cA (cB (cB impl_Coalgebra_coproduct.bd)))))) 0) impl_Coalgebra_coproduct.kp 2 0 m (impl_Coalgebra_coproduct.st0 v0 gv1 gv2 rv3 x4 gv5) (impl_Coalgebra_coproduct.k0 N K gv1 gv2) = (impl_Coalgebra_coproduct.l0 N (fun d0 => K (.agg [⟨.u8, 64, d0⟩]) [⟨false, .flat 2 (.ints .i64 gv1)⟩, ⟨false, .flat 520 (.ints .u8 gv2)⟩]) v0 gv2 rv3 (fun ov10 => (impl_Coalgebra_coproduct.k0 N K gv1 gv2) (.exit 0) (impl_Coalgebra_coproduct.sx0_0 gv1 gv2 ov10)) m x4 gv5) := by
  intro m
  induction m with
  | zero => intros; rfl
  | succ m ih =>
    intro x4 gv5
    refine (impl_Coalgebra_coproduct.b0_eq N K (fun s => xloop (xcode (E67 N) ents impl_Coalgebra_coproduct.kp 2 N (cL (cK (cB (cA (cB (cB impl_Coalgebra_coproduct.bd)))))) 0) impl_Coalgebra_coproduct.kp 2 0 m s (impl_Coalgebra_coproduct.k0 N K gv1 gv2)) v0 gv1 gv2 rv3 x4 gv5).trans ?_
    simp only [ih, impl_Coalgebra_coproduct.l1_eq, impl_Coalgebra_coproduct.a1_0_eq]
    kernel_rfl

theorem impl_Coalgebra_coproduct.s_eq {ρ : Type} (N : Nat) (K : AV → Heap → Option ρ) (v0 : Nat → Int) (gv1 : Nat → Int) (gv2 : Nat → Int) :
    xbody (E67 N) ents impl_Coalgebra_coproduct.kp N Go.Proofs.Try.f68 impl_Coalgebra_coproduct.bd [.sptr [(0, 2), (1, 520)], .agg [⟨.u8, 8, v0⟩]] [⟨false, .flat 2 (.ints .i64 gv1)⟩, ⟨false, .flat 520 (.ints .u8 gv2)⟩] K = (impl_Coalgebra_coproduct.s N (fun d0 => K (.agg [⟨.u8, 64, d0⟩]) [⟨false, .flat 2 (.ints .i64 gv1)⟩, ⟨false, .flat 520 (.ints .u8 gv2)⟩]) (fun rv3 x4 gv5 => xloop (xcode (E67 N) ents impl_Coalgebra_coproduct.kp 2 N (cL (cK (cB (cA (cB (cB impl_Coalgebra_coproduct.bd)))))) 0) impl_Coalgebra_coproduct.kp 2 0 N (impl_Coalgebra_coproduct.st0 v0 gv1 gv2 rv3 x4 gv5) (impl_Coalgebra_coproduct.k0 N K gv1 gv2)) gv1 gv2) := by kernel_rfl

theorem impl_Coalgebra_coproduct.eq {ρ : Type} (N : Nat) (K : AV → Heap → Option ρ) (v0 : Nat → Int) (gv1 : Nat → Int) (gv2 : Nat → Int) :
    xbody (E67 N) ents impl_Coalgebra_coproduct.kp N Go.Proofs.Try.f68 impl_Coalgebra_coproduct.bd [.sptr [(0, 2), (1, 520)], .agg [⟨.u8, 8, v0⟩]] [⟨false, .flat 2 (.ints .i64 gv1)⟩, ⟨false, .flat 520 (.ints .u8 gv2)⟩] K = (impl_Coalgebra_coproduct N (fun d0 => K (.agg [⟨.u8, 64, d0⟩]) [⟨false, .flat 2 (.ints .i64 gv1)⟩, ⟨false, .flat 520 (.ints .u8 gv2)⟩]) v0 gv1 gv2) := by
  refine (impl_Coalgebra_coproduct.s_eq N K v0 gv1 gv2).trans ?_
  simp only [impl_Coalgebra_coproduct.l0_eq, impl_Coalgebra_coproduct.a0_0_eq]
  kernel_rfl

noncomputable def impl_Coalgebra_coproduct.en (N : Nat) (ρ : Type) : List AV → Heap → (AV → Heap → Option ρ) → Option ρ
  | [.sptr [(0, 2), (1, 520)], .agg [⟨.u8, 8, v0⟩]], [⟨false, .flat 2 (.ints .i64 gv1)⟩, ⟨false, .flat 520 (.ints .u8 gv2)⟩], K => (impl_Coalgebra_coproduct N (fun d0 => K (.agg [⟨.u8, 64, d0⟩]) [⟨false, .flat 2 (.ints .i64 gv1)⟩, ⟨false, .flat 520 (.ints .u8 gv2)⟩]) v0 gv1 gv2)
  | _, _, _ => none

theorem impl_Coalgebra_coproduct.en_ok (N : Nat) (hE : EnvOk (E67 N) ents) (ρ : Type) (args : List AV) (sh : Heap) (K : AV → Heap → Option ρ) (r : ρ) (h : impl_Coalgebra_coproduct.en N ρ args sh K = some r) : ∃ v sh', K v sh' = some r ∧ FnOk (E67 N).P 68 args sh v sh' := by
  unfold impl_Coalgebra_coproduct.en at h
  split at h
  · exact fn_ok hE (kp := impl_Coalgebra_coproduct.kp) (N := N) Go.Proofs.Try.func68 (c := impl_Coalgebra_coproduct.bd) (by kernel_rfl) ((impl_Coalgebra_coproduct.eq N _ _ _ _).trans h)
  · cases h

noncomputable def E68 (N : Nat) : Env := (E67 N).add 68 (impl_Coalgebra_coproduct.en N)

theorem E68_ok (N : Nat) : EnvOk (E68 N) ents := Env.add_ok (E67_ok N) (impl_Coalgebra_coproduct.en_ok N (E67_ok N))

noncomputable def impl_transposed.kp : Keeps := ⟨[(0, [0, 2, 3, 7], [], []), (2, [0, 2, 3, 4, 7, 10], [], [])], [(0, [2, 3], [], []), (2, [0, 2, 3, 7], [], [])], []⟩

noncomputable def impl_transposed.bd : Code := bodyOf Go.Proofs.Try.f66

noncomputable def impl_transposed.fin {ρ : Type} (N : Nat) (K : AV → Heap → Option ρ) (gv0 : Nat → Int) : XE → St → Option ρ := finK (E68 N) impl_transposed.kp.fins Go.Proofs.Try.f66 [⟨false, .flat 64 (.ints .u8 gv0)⟩] K

noncomputable def impl_transposed.k0 {ρ : Type} (N : Nat) (K : AV → Heap → Option ρ) (gv0 : Nat → Int) : XE → St → Option ρ := (blockK impl_transposed.kp 1 0 (seqK (xcode (E68 N) ents impl_transposed.kp 1 N (cB (cB (cB impl_transposed.bd))) 0) (impl_transposed.fin N K gv0)))

theorem impl_transposed.k0_mix {ρ : Type} (N : Nat) (K : AV → Heap → Option ρ) (gv0 : Nat → Int) : mixK (impl_transposed.fin N K gv0 .ret) (impl_transposed.k0 N K gv0) = (impl_transposed.k0 N K gv0) := by
  funext e s; cases e <;> kernel_rfl

noncomputable def impl_transposed.st0 (gv0 : Nat → Int) (x1 : Int) (gv2 : Nat → Int) : St := ⟨sl 27 [(0, .sptr [(0, 64)]), (2, .sptr [(1, 64)]), (3, .sptr [(2, 64)]), (7, .int .i64 (x1))], [⟨false, .flat 64 (.ints .u8 gv0)⟩, ⟨true, .flat 64 (.ints .u8 (fun _ => 0))⟩, ⟨true, .flat 64 (.ints .u8 gv2)⟩]⟩

noncomputable def impl_transposed.sx0_0 (gv0 : Nat → Int) (ov6 : Nat → Int) : St := ⟨sl 27 [(2, .sptr [(1, 64)]), (3, .sptr [(2, 64)])], [⟨false, .flat 64 (.ints .u8 gv0)⟩, ⟨true, .flat 64 (.ints .u8 (fun _ => 0))⟩, ⟨true, .flat 64 (.ints .u8 ov6)⟩]⟩

noncomputable def impl_transposed.k1g {ρ : Type} (N : Nat) (L0 : St → Option ρ) (kv : XE → St → Option ρ) : XE → St → Option ρ := (blockK impl_transposed.kp 1 2 (blockK impl_transposed.kp 1 1 (seqK (xcode (E68 N) ents impl_transposed.kp 1 N (cB (cB (cB (cL (cK (cB (cA (cB (cB impl_transposed.bd))))))))) 0) (roundK impl_transposed.kp 1 0 L0 kv))))

theorem impl_transposed.k1_mix {ρ : Type} (N : Nat) (K : AV → Heap → Option ρ) (L0 : St → Option ρ) (gv0 : Nat → Int) : mixK (impl_transposed.fin N K gv0 .ret) (impl_transposed.k1g N L0 (impl_transposed.k0 N K gv0)) = (impl_transposed.k1g N L0 (impl_transposed.k0 N K gv0)) := by
  funext e s; cases e <;> kernel_rfl

noncomputable def impl_transposed.st1 (gv0 : Nat → Int) (x1 : Int) (x3 : Int) (gv4 : Nat → Int) : St := ⟨sl 27 [(0, .sptr [(0, 64)]), (2, .sptr [(1, 64)]), (3, .sptr [(2, 64)]), (4, .int .i64 (x1)), (7, .int .i64 (x1)), (10, .int .i64 (x3))], [⟨false, .flat 64 (.ints .u8 gv0)⟩, ⟨true, .flat 64 (.ints .u8 (fun _ => 0))⟩, ⟨true, .flat 64 (.ints .u8 gv4)⟩]⟩

noncomputable def impl_transposed.sx1_0 (gv0 : Nat → Int) (x1 : Int) (ov5 : Nat → Int) : St := ⟨sl 27 [(0, .sptr [(0, 64)]), (2, .sptr [(1, 64)]), (3, .sptr [(2, 64)]), (7, .int .i64 (x1))], [⟨false, .flat 64 (.ints .u8 gv0)⟩, ⟨true, .flat 64 (.ints .u8 (fun _ => 0))⟩, ⟨true, .flat 64 (.ints .u8 ov5)⟩]⟩

theorem impl_transposed.b1_gen {ρ : Type} (N : Nat) (K : AV → Heap → Option ρ) (L1 : St → Option ρ) (kv : XE → St → Option ρ) (gv0 : Nat → Int) (x1 : Int) (x3 : Int) (gv4 : Nat → Int) :
    xcode (E68 N) ents impl_transposed.kp 1 N (cL (cK (cB (cB (cK (cA (cB (cB (cL (cK (cB (cA (cB (cB impl_transposed.bd)))))))))))))) 2 (impl_transposed.st1 gv0 x1 x3 gv4) (roundK impl_transposed.kp 1 2 L1 (mixK (impl_transposed.fin N K gv0 .ret) kv)) = (impl_transposed.b1 N (fun d0 => K (.agg [⟨.u8, 64, d0⟩]) [⟨false, .flat 64 (.ints .u8 gv0)⟩]) (fun x3 gv4 => L1 (impl_transposed.st1 gv0 x1 x3 gv4)) (fun ov5 => kv (.exit 2) (impl_transposed.sx1_0 gv0 x1 ov5)) gv0 x1 x3 gv4) := by kernel_rfl

theorem impl_transposed.b1_eq {ρ : Type} (N : Nat) (K : AV → Heap → Option ρ) (L0 : St → Option ρ) (L1 : St → Option ρ) (gv0 : Nat → Int) (x1 : Int) (x3 : Int) (gv4 : Nat → Int) :
    xcode (E68 N) ents impl_transposed.kp 1 N (cL (cK (cB (cB (cK (cA (cB (cB (cL (cK (cB (cA (cB (cB impl_transposed.bd)))))))))))))) 2 (impl_transposed.st1 gv0 x1 x3 gv4) (roundK impl_transposed.kp 1 2 L1 (impl_transposed.k1g N L0 (impl_transposed.k0 N K gv0))) = (impl_transposed.b1 N (fun d0 => K (.agg [⟨.u8, 64, d0⟩]) [⟨false, .flat 64 (.ints .u8 gv0)⟩]) (fun x3 gv4 => L1 (impl_transposed.st1 gv0 x1 x3 gv4)) (fun ov5 => (impl_transposed.k1g N L0 (impl_transposed.k0 N K gv0)) (.exit 2) (impl_transposed.sx1_0 gv0 x1 ov5)) gv0 x1 x3 gv4) := by
  have h := impl_transposed.b1_gen N K L1 (impl_transposed.k1g N L0 (impl_transposed.k0 N K gv0)) gv0 x1 x3 gv4
  rw [impl_transposed.k1_mix] at h
  exact h

theorem impl_transposed.a1_0_gen {ρ : Type} (N : Nat) (K : AV → Heap → Option ρ) (L0 : St → Option ρ) (kv : XE → St → Option ρ) (gv0 : Nat → Int) (x1 : Int) (ov5 : Nat → Int) :
    (impl_transposed.k1g N L0 (mixK (impl_transposed.fin N K gv0 .ret) kv)) (.exit 2) (impl_transposed.sx1_0 gv0 x1 ov5) = (impl_transposed.a1_0 N (fun d0 => K (.agg [⟨.u8, 64, d0⟩]) [⟨false, .flat 64 (.ints .u8 gv0)⟩]) (fun x1 gv2 => L0 (impl_transposed.st0 gv0 x1 gv2)) (fun ov6 => kv (.exit 0) (impl_transposed.sx0_0 gv0 ov6)) x1 ov5) := by kernel_rfl

theorem impl_transposed.a1_0_eq {ρ : Type} (N : Nat) (K : AV → Heap → Option ρ) (L0 : St → Option ρ) (gv0 : Nat → Int) (x1 : Int) (ov5 : Nat → Int) :
    (impl_transposed.k1g N L0 (impl_transposed.k0 N K gv0)) (.exit 2) (impl_transposed.sx1_0 gv0 x1 ov5) = (impl_transposed.a1_0 N (fun d0 => K (.agg [⟨.u8, 64, d0⟩]) [⟨false, .flat 64 (.ints .u8 gv0)⟩]) (fun x1 gv2 => L0 (impl_transposed.st0 gv0 x1 gv2)) (fun ov6 => (impl_transposed.k0 N K gv0) (.exit 0) (impl_transposed.sx0_0 gv0 ov6)) x1 ov5) := by
  have h := impl_transposed.a1_0_gen N K L0 (impl_transposed.k0 N K gv0) gv0 x1 ov5
  rw [impl_transposed.k0_mix] at h
  exact h

theorem impl_transposed.b0_gen {ρ : Type} (N : Nat) (K : AV → Heap → Option ρ) (L0 : St → Option ρ) (kv : XE → St → Option ρ) (gv0 : Nat → Int) (x1 : Int) (gv2 : Nat → Int) :
    xcode (E68 N) ents impl_transposed.kp 1 N (cL (cK (cB (cA (cB (cB impl_transposed.bd)))))) 0 (impl_transposed.st0 gv0 x1 gv2) (roundK impl_transposed.kp 1 0 L0 (mixK (impl_transposed.fin N K gv0 .ret) kv)) = (impl_transposed.b0 N (fun d0 => K (.agg [⟨.u8, 64, d0⟩]) [⟨false, .flat 64 (.ints .u8 gv0)⟩]) (fun x3 gv4 => xloop (xcode (E68 N) ents impl_transposed.kp 1 N (cL (cK (cB (cB (cK (cA (cB (cB (cL (cK (cB (cA (cB (cB impl_transposed.bd)))))))))))))) 2) impl_transposed.kp 1 2 N (impl_transposed.st1 gv0 x1 x3 gv4) (impl_transposed.k1g N L0 (mixK (impl_transposed.fin N K gv0 .ret) kv))) (fun x1 gv2 => L0 (impl_transposed.st0 gv0 x1 gv2)) (fun ov6 => kv (.exit 0) (impl_transposed.sx0_0 gv0 ov6)) x1 gv2) := by kernel_rfl

theorem impl_transposed.b0_eq {ρ : Type} (N : Nat) (K : AV → Heap → Option ρ) (L0 : St → Option ρ) (gv0 : Nat → Int) (x1 : Int) (gv2 : Nat → Int) :
    xcode (E68 N) ents impl_transposed.kp 1 N (cL (cK (cB (cA (cB (cB impl_transposed.bd)))))) 0 (impl_transposed.st0 gv0 x1 gv2) (roundK impl_transposed.kp 1 0 L0 (impl_transposed.k0 N K gv0)) = (impl_transposed.b0 N (fun d0 => K (.agg [⟨.u8, 64, d0⟩]) [⟨false, .flat 64 (.ints .u8 gv0)⟩]) (fun x3 gv4 => xloop (xcode (E68 N) ents impl_transposed.kp 1 N (cL (cK (cB (cB (cK (cA (cB (cB (cL (cK (cB (cA (cB (cB impl_transposed.bd)))))))))))))) 2) impl_transposed.kp 1 2 N (impl_transposed.st1 gv0 x1 x3 gv4) (impl_transposed.k1g N L0 (impl_transposed.k0 N K gv0))) (fun x1 gv2 => L0 (impl_transposed.st0 gv0 x1 gv2)) (fun ov6 => (impl_transposed.k0 N K gv0) (.exit 0) (impl_transposed.sx0_0 gv0 ov6)) x1 gv2) := by
  have h := impl_transposed.b0_gen N K L0 (impl_transposed.k0 N K gv0) gv0 x1 gv2
  rw [impl_transposed.k0_mix] at h
  exact h

theorem impl_transposed.a0_0_eq {ρ : Type} (N : Nat) (K : AV → Heap → Option ρ) (gv0 : Nat → Int) (ov6 : Nat → Int) :
    (impl_transposed.k0 N K gv0) (.exit 0) (impl_transposed.sx0_0 gv0 ov6) = (impl_transposed.a0_0 N (fun d0 => K (.agg [⟨.u8, 64, d0⟩]) [⟨false, .flat 64 (.ints .u8 gv0)⟩]) ov6) := by kernel_rfl

theorem impl_transposed.l1_eq {ρ : Type} (N : Nat) (K : AV → Heap → Option ρ) (L0 : St → Option ρ) (gv0 : Nat → Int) (x1 : Int) :
    ∀ (m : Nat) (x3 : Int) (gv4 : Nat → Int), xloop (xcode (E68 N) ents impl_transposed.kp 1 N (cL (cK (cB (cB (cK (cA (cB (cB (cL (cK (cB (cA (cB (cB impl_transposed.bd)))))))))))))) 2) impl_transposed.kp 1 2 m (impl_transposed.st1 gv0 x1 x3 gv4) (impl_transposed.k1g N L0 (impl_transposed.k0 N K gv0)) = (impl_transposed.l1 N (fun d0 => K (.agg [⟨.u8, 64, d0⟩]) [⟨false, .flat 64 (.ints .u8 gv0)⟩]) gv0 x1 (fun ov5 => (impl_transposed.k1g N L0 (impl_transposed.k0 N K gv0)) (.exit 2) (impl_transposed.sx1_0 gv0 x1 ov5)) m x3 gv4) := by
  intro m
  induction m with
  | zero => intros; rfl
  | succ m ih =>
    intro x3 gv4
    refine (impl_transposed.b1_eq N K L0 (fun s => xloop (xcode (E68 N) ents impl_transposed.kp 1 N (cL (cK (cB (cB (cK (cA (cB (cB (cL (cK (cB (cA (cB (cB impl_transposed.bd)))))))))))))) 2) impl_transposed.kp 1 2 m s (impl_transposed.k1g N L0 (impl_transposed.k0 N K gv0))) gv0 x1 x3 gv4).trans ?_
    simp only [ih]
    kernel_rfl

theorem impl_transposed.l0_eq {ρ : Type} (N : Nat) (K : AV → Heap → Option ρ) (gv0 : Nat → Int) :
    ∀ (m : Nat) (x1 : Int) (gv2 : Nat → Int), xloop (xcode (E68 N) ents impl_transposed.kp 1 N (cL (cK (cB (cA (cB (cB impl_transposed.bd)))))) 0) impl_transposed.kp 1 0 m (impl_transposed.st0 gv0 x1 gv2) (impl_transposed.k0 N K gv0) = (impl_transposed.l0 N (fun d0 => K (.agg [⟨.u8, 64, d0⟩]) [⟨false, .flat 64 (.ints .u8 gv0)⟩]) gv0 (fun ov6 => (impl_transposed.k0 N K gv0) (.exit 0) (impl_transposed.sx0_0 gv0 ov6)) m x1 gv2) := by
  intro m
  induction m with
  | zero => intros; rfl
  | succ m ih =>
    intro x1 gv2
    refine (impl_transposed.b0_eq N K (fun s => xloop (xcode (E68 N) ents impl_transposed.kp 1 N (cL (cK (cB (cA (cB (cB impl_transposed.bd)))))) 0) impl_transposed.kp 1 0 m s (impl_transposed.k0 N K gv0)) gv0 x1 gv2).trans ?_
    simp only [ih, impl_transposed.l1_eq, impl_transposed.a1_0_eq]
    kernel_rfl

theorem impl_transposed.s_eq {ρ : Type} (N : Nat) (K : AV → Heap → Option ρ) (gv0 : Nat → Int) :
    xbody (E68 N) ents impl_transposed.kp N Go.Proofs.Try.f66 impl_transposed.bd [.sptr [(0, 64)]] [⟨false, .flat 64 (.ints .u8 gv0)⟩] K = (impl_transposed.s N (fun d0 => K (.agg [⟨.u8, 64, d0⟩]) [⟨false, .flat 64 (.ints .u8 gv0)⟩]) (fun x1 gv2 => xloop (xcode (E68 N) ents impl_transposed.kp 1 N (cL (cK (cB (cA (cB (cB impl_transposed.bd)))))) 0) impl_transposed.kp 1 0 N (impl_transposed.st0 gv0 x1 gv2) (impl_transposed.k0 N K gv0))) := by kernel_rfl

theorem impl_transposed.eq {ρ : Type} (N : Nat) (K : AV → Heap → Option ρ) (gv0 : Nat → Int) :
    xbody (E68 N) ents impl_transposed.kp N Go.Proofs.Try.f66 impl_transposed.bd [.sptr [(0, 64)]] [⟨false, .flat 64 (.ints .u8 gv0)⟩] K = (impl_transposed N (fun d0 => K (.agg [⟨.u8, 64, d0⟩]) [⟨false, .flat 64 (.ints .u8 gv0)⟩]) gv0) := by
  refine (impl_transposed.s_eq N K gv0).trans ?_
  simp only [impl_transposed.l0_eq, impl_transposed.a0_0_eq]
  kernel_rfl

noncomputable def impl_transposed.en (N : Nat) (ρ : Type) : List AV → Heap → (AV → Heap → Option ρ) → Option ρ
  | [.sptr [(0, 64)]], [⟨false, .flat 64 (.ints .u8 gv0)⟩], K => (impl_transposed N (fun d0 => K (.agg [⟨.u8, 64, d0⟩]) [⟨false, .flat 64 (.ints .u8 gv0)⟩]) gv0)
  | _, _, _ => none

theorem impl_transposed.en_ok (N : Nat) (hE : EnvOk (E68 N) ents) (ρ : Type) (args : List AV) (sh : Heap) (K : AV → Heap → Option ρ) (r : ρ) (h : impl_transposed.en N ρ args sh K = some r) : ∃ v sh', K v sh' = some r ∧ FnOk (E68 N).P 66 args sh v sh' := by
  unfold impl_transposed.en at h
  split at h
  · exact fn_ok hE (kp := impl_transposed.kp) (N := N) Go.Proofs.Try.func66 (c := impl_transposed.bd) (by kernel_rfl) ((impl_transposed.eq N _ _).trans h)
  · cases h

noncomputable def E69 (N : Nat) : Env := (E68 N).add 66 (impl_transposed.en N)

theorem E69_ok (N : Nat) : EnvOk (E69 N) ents := Env.add_ok (E68_ok N) (impl_transposed.en_ok N (E68_ok N))

noncomputable def slices_Clone_s_v2.kp : Keeps := ⟨[], [], []⟩

noncomputable def slices_Clone_s_v2.bd : Code := bodyOf Go.Proofs.Try.f121

noncomputable def slices_Clone_s_v2.fin {ρ : Type} (N : Nat) (K : AV → Heap → Option ρ) (gv2 : Nat) (gv3 : Nat → Int) : XE → St → Option ρ := finK (E69 N) slices_Clone_s_v2.kp.fins Go.Proofs.Try.f121 [⟨false, .flat gv2 (.ints .u8 gv3)⟩] K

theorem slices_Clone_s_v2.eq {ρ : Type} (N : Nat) (K : AV → Heap → Option ρ) (s0 : Nat) (s1 : Nat) (gv2 : Nat) (gv3 : Nat → Int) :
    xbody (E69 N) ents slices_Clone_s_v2.kp N Go.Proofs.Try.f121 slices_Clone_s_v2.bd [.slice true 0 0 s0 (.exact s1) 8] [⟨false, .flat gv2 (.ints .u8 gv3)⟩] K = (slices_Clone_s_v2 N (fun d0 d1 => K (.slice true 1 0 d0 .whole 8) [⟨false, .flat gv2 (.ints .u8 gv3)⟩, ⟨true, .flat 0 (.ints .u8 d1)⟩]) s0 s1 gv2 gv3) := by kernel_rfl

noncomputable def slices_Clone_s_v2.en (N : Nat) (ρ : Type) : List AV → Heap → (AV → Heap → Option ρ) → Option ρ
  | [.slice true 0 0 s0 (.exact s1) 8], [⟨false, .flat gv2 (.ints .u8 gv3)⟩], K => (slices_Clone_s_v2 N (fun d0 d1 => K (.slice true 1 0 d0 .whole 8) [⟨false, .flat gv2 (.ints .u8 gv3)⟩, ⟨true, .flat 0 (.ints .u8 d1)⟩]) s0 s1 gv2 gv3)
  | _, _, _ => none

theorem slices_Clone_s_v2.en_ok (N : Nat) (hE : EnvOk (E69 N) ents) (ρ : Type) (args : List AV) (sh : Heap) (K : AV → Heap → Option ρ) (r : ρ) (h : slices_Clone_s_v2.en N ρ args sh K = some r) : ∃ v sh', K v sh' = some r ∧ FnOk (E69 N).P 121 args sh v sh' := by
  unfold slices_Clone_s_v2.en at h
  split at h
  · exact fn_ok hE (kp := slices_Clone_s_v2.kp) (N := N) Go.Proofs.Try.func121 (c := slices_Clone_s_v2.bd) (by kernel_rfl) ((slices_Clone_s_v2.eq N _ _ _ _ _).trans h)
  · cases h

noncomputable def E70 (N : Nat) : Env := (E69 N).add 121 (slices_Clone_s_v2.en N)

theorem E70_ok (N : Nat) : EnvOk (E70 N) ents := Env.add_ok (E69_ok N) (slices_Clone_s_v2.en_ok N (E69_ok N))

noncomputable def impl_legs.kp : Keeps := ⟨[], [], []⟩

noncomputable def impl_legs.bd : Code := bodyOf Go.Proofs.Try.f88

noncomputable def impl_legs.fin {ρ : Type} (N : Nat) (K : AV → Heap → Option ρ) : XE → St → Option ρ := finK (E70 N) impl_legs.kp.fins Go.Proofs.Try.f88 [] K

theorem impl_legs.eq {ρ : Type} (N : Nat) (K : AV → Heap → Option ρ) (mv0 : Nat → Int) :
    xbody (E70 N) ents impl_legs.kp N Go.Proofs.Try.f88 impl_legs.bd [.agg [⟨.u8, 64, mv0⟩]] [] K = (impl_legs N (fun d0 d1 => K (.slice true 0 0 d0 .whole 8) [⟨true, .flat 0 (.ints .u8 d1)⟩]) mv0) := by kernel_rfl

noncomputable def impl_legs.en (N : Nat) (ρ : Type) : List AV → Heap → (AV → Heap → Option ρ) → Option ρ
  | [.agg [⟨.u8, 64, mv0⟩]], [], K => (impl_legs N (fun d0 d1 => K (.slice true 0 0 d0 .whole 8) [⟨true, .flat 0 (.ints .u8 d1)⟩]) mv0)
  | _, _, _ => none

theorem impl_legs.en_ok (N : Nat) (hE : EnvOk (E70 N) ents) (ρ : Type) (args : List AV) (sh : Heap) (K : AV → Heap → Option ρ) (r : ρ) (h : impl_legs.en N ρ args sh K = some r) : ∃ v sh', K v sh' = some r ∧ FnOk (E70 N).P 88 args sh v sh' := by
  unfold impl_legs.en at h
  split at h
  · exact fn_ok hE (kp := impl_legs.kp) (N := N) Go.Proofs.Try.func88 (c := impl_legs.bd) (by kernel_rfl) ((impl_legs.eq N _ _).trans h)
  · cases h

noncomputable def E71 (N : Nat) : Env := (E70 N).add 88 (impl_legs.en N)

theorem E71_ok (N : Nat) : EnvOk (E71 N) ents := Env.add_ok (E70_ok N) (impl_legs.en_ok N (E70_ok N))

noncomputable def impl_within_susu.kp : Keeps := ⟨[], [], []⟩

noncomputable def impl_within_susu.bd : Code := bodyOf Go.Proofs.Try.f87

noncomputable def impl_within_susu.fin {ρ : Type} (N : Nat) (K : AV → Heap → Option ρ) (gv3 : Nat) (gv4 : Nat → Int) (gv5 : Nat) (gv6 : Nat → Int) : XE → St → Option ρ := finK (E71 N) impl_within_susu.kp.fins Go.Proofs.Try.f87 [⟨false, .flat gv3 (.ints .u8 gv4)⟩, ⟨false, .flat gv5 (.ints .u8 gv6)⟩] K

theorem impl_within_susu.eq {ρ : Type} (N : Nat) (K : AV → Heap → Option ρ) (p0 : Int) (space1 : Nat) (list2 : Nat) (gv3 : Nat) (gv4 : Nat → Int) (gv5 : Nat) (gv6 : Nat → Int) :
    xbody (E71 N) ents impl_within_susu.kp N Go.Proofs.Try.f87 impl_within_susu.bd [.int .i64 (p0), .slice true 0 0 space1 .unk 8, .slice true 1 0 list2 .unk 8] [⟨false, .flat gv3 (.ints .u8 gv4)⟩, ⟨false, .flat gv5 (.ints .u8 gv6)⟩] K = (impl_within_susu N (fun d0 => K (.bool (d0)) [⟨false, .flat gv3 (.ints .u8 gv4)⟩, ⟨false, .flat gv5 (.ints .u8 gv6)⟩]) p0 space1 list2 gv3 gv4 gv5 gv6) := by kernel_rfl

noncomputable def impl_within_susu.en (N : Nat) (ρ : Type) : List AV → Heap → (AV → Heap → Option ρ) → Option ρ
  | [.int .i64 (p0), .slice true 0 0 space1 .unk 8, .slice true 1 0 list2 .unk 8], [⟨false, .flat gv3 (.ints .u8 gv4)⟩, ⟨false, .flat gv5 (.ints .u8 gv6)⟩], K => (impl_within_susu N (fun d0 => K (.bool (d0)) [⟨false, .flat gv3 (.ints .u8 gv4)⟩, ⟨false, .flat gv5 (.ints .u8 gv6)⟩]) p0 space1 list2 gv3 gv4 gv5 gv6)
  | _, _, _ => none

theorem impl_within_susu.en_ok (N : Nat) (hE : EnvOk (E71 N) ents) (ρ : Type) (args : List AV) (sh : Heap) (K : AV → Heap → Option ρ) (r : ρ) (h : impl_within_susu.en N ρ args sh K = some r) : ∃ v sh', K v sh' = some r ∧ FnOk (E71 N).P 87 args sh v sh' := by
  unfold impl_within_susu.en at h
  split at h
  · exact fn_ok hE (kp := impl_within_susu.kp) (N := N) Go.Proofs.Try.func87 (c := impl_within_susu.bd) (by kernel_rfl) ((impl_within_susu.eq N _ _ _ _ _ _ _ _).trans h)
  · cases h

noncomputable def E72 (N : Nat) : Env := (E71 N).add 87 (impl_within_susu.en N)

theorem E72_ok (N : Nat) : EnvOk (E72 N) ents := Env.add_ok (E71_ok N) (impl_within_susu.en_ok N (E71_ok N))

noncomputable def impl_IsSubcoalgebra_s.kp : Keeps := ⟨[(0, [2, 7, 19, 20, 21], [], [])], [(0, [], [], [])], []⟩

noncomputable def impl_IsSubcoalgebra_s.bd : Code := bodyOf Go.Proofs.Try.f49

noncomputable def impl_IsSubcoalgebra_s.fin {ρ : Type} (N : Nat) (K : AV → Heap → Option ρ) (gv4 : Nat) (gv5 : Nat → Int) : XE → St → Option ρ := finK (E72 N) impl_IsSubcoalgebra_s.kp.fins Go.Proofs.Try.f49 [⟨false, .flat gv4 (.ints .u8 gv5)⟩] K

noncomputable def impl_IsSubcoalgebra_s.k0 {ρ : Type} (N : Nat) (K : AV → Heap → Option ρ) (gv4 : Nat) (gv5 : Nat → Int) : XE → St → Option ρ := (blockK impl_IsSubcoalgebra_s.kp 1 0 (seqK (xcode (E72 N) ents impl_IsSubcoalgebra_s.kp 1 N (cB (cB (cB (cB impl_IsSubcoalgebra_s.bd)))) 0) (impl_IsSubcoalgebra_s.fin N K gv4 gv5)))

theorem impl_IsSubcoalgebra_s.k0_mix {ρ : Type} (N : Nat) (K : AV → Heap → Option ρ) (gv4 : Nat) (gv5 : Nat → Int) : mixK (impl_IsSubcoalgebra_s.fin N K gv4 gv5 .ret) (impl_IsSubcoalgebra_s.k0 N K gv4 gv5) = (impl_IsSubcoalgebra_s.k0 N K gv4 gv5) := by
  funext e s; cases e <;> kernel_rfl

noncomputable def impl_IsSubcoalgebra_s.st0 (c0 : Nat → Int) (c1 : Nat → Int) (gv4 : Nat) (gv5 : Nat → Int) (rv7 : Nat) (rv8 : Nat → Int) (x9 : Int) : St := ⟨sl 34 [(2, .sptr [(1, 2), (2, 520)]), (7, .slice true 3 0 rv7 .whole 8), (19, .slice true 3 0 rv7 .whole 8), (20, .int .i64 ((rv7 : Int))), (21, .int .i64 (x9))], [⟨false, .flat gv4 (.ints .u8 gv5)⟩, ⟨true, .flat 2 (.ints .i64 c0)⟩, ⟨true, .flat 520 (.ints .u8 c1)⟩, ⟨true, .flat 0 (.ints .u8 rv8)⟩]⟩

noncomputable def impl_IsSubcoalgebra_s.sx0_0 (gv4 : Nat) (gv5 : Nat → Int) : St := ⟨sl 34 [], [⟨false, .flat gv4 (.ints .u8 gv5)⟩]⟩

theorem impl_IsSubcoalgebra_s.b0_gen {ρ : Type} (N : Nat) (K : AV → Heap → Option ρ) (L0 : St → Option ρ) (kv : XE → St → Option ρ) (c0 : Nat → Int) (c1 : Nat → Int) (gv4 : Nat) (gv5 : Nat → Int) (rv7 : Nat) (rv8 : Nat → Int) (x9 : Int) :
    xcode (E72 N) ents impl_IsSubcoalgebra_s.kp 1 N (cL (cK (cB (cA (cB (cB (cB impl_IsSubcoalgebra_s.bd))))))) 0 (impl_IsSubcoalgebra_s.st0 c0 c1 gv4 gv5 rv7 rv8 x9) (roundK impl_IsSubcoalgebra_s.kp 1 0 L0 (mixK (impl_IsSubcoalgebra_s.fin N K gv4 gv5 .ret) kv)) = (impl_IsSubcoalgebra_s.b0 N (fun d0 d1 => K (.tup [.bool (d0), .int .i64 (d1)]) [⟨false, .flat gv4 (.ints .u8 gv5)⟩]) (fun x9 => L0 (impl_IsSubcoalgebra_s.st0 c0 c1 gv4 gv5 rv7 rv8 x9)) (kv (.exit 0) (impl_IsSubcoalgebra_s.sx0_0 gv4 gv5)) c0 c1 rv7 rv8 x9) := by kernel_rfl

theorem impl_IsSubcoalgebra_s.b0_eq {ρ : Type} (N : Nat) (K : AV → Heap → Option ρ) (L0 : St → Option ρ) (c0 : Nat → Int) (c1 : Nat → Int) (gv4 : Nat) (gv5 : Nat → Int) (rv7 : Nat) (rv8 : Nat → Int) (x9 : Int) :
    xcode (E72 N) ents impl_IsSubcoalgebra_s.kp 1 N (cL (cK (cB (cA (cB (cB (cB impl_IsSubcoalgebra_s.bd))))))) 0 (impl_IsSubcoalgebra_s.st0 c0 c1 gv4 gv5 rv7 rv8 x9) (roundK impl_IsSubcoalgebra_s.kp 1 0 L0 (impl_IsSubcoalgebra_s.k0 N K gv4 gv5)) = (impl_IsSubcoalgebra_s.b0 N (fun d0 d1 => K (.tup [.bool (d0), .int .i64 (d1)]) [⟨false, .flat gv4 (.ints .u8 gv5)⟩]) (fun x9 => L0 (impl_IsSubcoalgebra_s.st0 c0 c1 gv4 gv5 rv7 rv8 x9)) ((impl_IsSubcoalgebra_s.k0 N K gv4 gv5) (.exit 0) (impl_IsSubcoalgebra_s.sx0_0 gv4 gv5)) c0 c1 rv7 rv8 x9) := by
  have h := impl_IsSubcoalgebra_s.b0_gen N K L0 (impl_IsSubcoalgebra_s.k0 N K gv4 gv5) c0 c1 gv4 gv5 rv7 rv8 x9
  rw [impl_IsSubcoalgebra_s.k0_mix] at h
  exact h

theorem impl_IsSubcoalgebra_s.a0_0_eq {ρ : Type} (N : Nat) (K : AV → Heap → Option ρ) (gv4 : Nat) (gv5 : Nat → Int) :
    (impl_IsSubcoalgebra_s.k0 N K gv4 gv5) (.exit 0) (impl_IsSubcoalgebra_s.sx0_0 gv4 gv5) = (impl_IsSubcoalgebra_s.a0_0 N (fun d0 d1 => K (.tup [.bool (d0), .int .i64 (d1)]) [⟨false, .flat gv4 (.ints .u8 gv5)⟩])) := by kernel_rfl

theorem impl_IsSubcoalgebra_s.l0_eq {ρ : Type} (N : Nat) (K : AV → Heap → Option ρ) (c0 : Nat → Int) (c1 : Nat → Int) (gv4 : Nat) (gv5 : Nat → Int) (rv7 : Nat) (rv8 : Nat → Int) :
    ∀ (m : Nat) (x9 : Int), xloop (xcode (E72 N) ents impl_IsSubcoalgebra_s.kp 1 N (cL (cK (cB (cA (cB (cB (cB impl_IsSubcoalgebra_s.bd))))))) 0) impl_IsSubcoalgebra_s.kp 1 0 m (impl_IsSubcoalgebra_s.st0 c0 c1 gv4 gv5 rv7 rv8 x9) (impl_IsSubcoalgebra_s.k0 N K gv4 gv5) = (impl_IsSubcoalgebra_s.l0 N (fun d0 d1 => K (.tup [.bool (d0), .int .i64 (d1)]) [⟨false, .flat gv4 (.ints .u8 gv5)⟩]) c0 c1 rv7 rv8 ((impl_IsSubcoalgebra_s.k0 N K gv4 gv5) (.exit 0) (impl_IsSubcoalgebra_s.sx0_0 gv4 gv5)) m x9) := by
  intro m
  induction m with
  | zero => intros; rfl
  | succ m ih =>
    intro x9
    refine (impl_IsSubcoalgebra_s.b0_eq N K (fun s => xloop (xcode (E72 N) ents impl_IsSubcoalgebra_s.kp 1 N (cL (cK (cB (cA (cB (cB (cB impl_IsSubcoalgebra_s.bd))))))) 0) impl_IsSubcoalgebra_s.kp 1 0 m s (impl_IsSubcoalgebra_s.k0 N K gv4 gv5)) c0 c1 gv4 gv5 rv7 rv8 x9).trans ?_
    simp only [ih]
    kernel_rfl

theorem impl_IsSubcoalgebra_s.s_eq {ρ : Type} (N : Nat) (K : AV → Heap → Option ρ) (c0 : Nat → Int) (c1 : Nat → Int) (list2 : Nat) (list3 : Nat) (gv4 : Nat) (gv5 : Nat → Int) :
    xbody (E72 N) ents impl_IsSubcoalgebra_s.kp N Go.Proofs.Try.f49 impl_IsSubcoalgebra_s.bd [.agg [⟨.i64, 2, c0⟩, ⟨.u8, 520, c1⟩], .slice true 0 0 list2 (.exact list3) 8] [⟨false, .flat gv4 (.ints .u8 gv5)⟩] K = (impl_IsSubcoalgebra_s.s N (fun d0 d1 => K (.tup [.bool (d0), .int .i64 (d1)]) [⟨false, .flat gv4 (.ints .u8 gv5)⟩]) (fun rv7 rv8 x9 => xloop (xcode (E72 N) ents impl_IsSubcoalgebra_s.kp 1 N (cL (cK (cB (cA (cB (cB (cB impl_IsSubcoalgebra_s.bd))))))) 0) impl_IsSubcoalgebra_s.kp 1 0 N (impl_IsSubcoalgebra_s.st0 c0 c1 gv4 gv5 rv7 rv8 x9) (impl_IsSubcoalgebra_s.k0 N K gv4 gv5)) c0 c1 list2 list3 gv5) := by kernel_rfl

theorem impl_IsSubcoalgebra_s.eq {ρ : Type} (N : Nat) (K : AV → Heap → Option ρ) (c0 : Nat → Int) (c1 : Nat → Int) (list2 : Nat) (list3 : Nat) (gv4 : Nat) (gv5 : Nat → Int) :
    xbody (E72 N) ents impl_IsSubcoalgebra_s.kp N Go.Proofs.Try.f49 impl_IsSubcoalgebra_s.bd [.agg [⟨.i64, 2, c0⟩, ⟨.u8, 520, c1⟩], .slice true 0 0 list2 (.exact list3) 8] [⟨false, .flat gv4 (.ints .u8 gv5)⟩] K = (impl_IsSubcoalgebra_s N (fun d0 d1 => K (.tup [.bool (d0), .int .i64 (d1)]) [⟨false, .flat gv4 (.ints .u8 gv5)⟩]) c0 c1 list2 list3 gv4 gv5) := by
  refine (impl_IsSubcoalgebra_s.s_eq N K c0 c1 list2 list3 gv4 gv5).trans ?_
  simp only [impl_IsSubcoalgebra_s.l0_eq, impl_IsSubcoalgebra_s.a0_0_eq]
  kernel_rfl

noncomputable def impl_IsSubcoalgebra_n.kp : Keeps := ⟨[(0, [2, 7, 19, 20, 21], [], [])], [(0, [], [], [])], []⟩

noncomputable def impl_IsSubcoalgebra_n.bd : Code := bodyOf Go.Proofs.Try.f49

noncomputable def impl_IsSubcoalgebra_n.fin {ρ : Type} (N : Nat) (K : AV → Heap → Option ρ) : XE → St → Option ρ := finK (E72 N) impl_IsSubcoalgebra_n.kp.fins Go.Proofs.Try.f49 [] K

noncomputable def impl_IsSubcoalgebra_n.k0 {ρ : Type} (N : Nat) (K : AV → Heap → Option ρ) : XE → St → Option ρ := (blockK impl_IsSubcoalgebra_n.kp 0 0 (seqK (xcode (E72 N) ents impl_IsSubcoalgebra_n.kp 0 N (cB (cB (cB (cB impl_IsSubcoalgebra_n.bd)))) 0) (impl_IsSubcoalgebra_n.fin N K)))

theorem impl_IsSubcoalgebra_n.k0_mix {ρ : Type} (N : Nat) (K : AV → Heap → Option ρ) : mixK (impl_IsSubcoalgebra_n.fin N K .ret) (impl_IsSubcoalgebra_n.k0 N K) = (impl_IsSubcoalgebra_n.k0 N K) := by
  funext e s; cases e <;> kernel_rfl

noncomputable def impl_IsSubcoalgebra_n.st0 (c0 : Nat → Int) (c1 : Nat → Int) (rv3 : Nat) (rv4 : Nat → Int) (x5 : Int) : St := ⟨sl 34 [(2, .sptr [(0, 2), (1, 520)]), (7, .slice true 2 0 rv3 .whole 8), (19, .slice true 2 0 rv3 .whole 8), (20, .int .i64 ((rv3 : Int))), (21, .int .i64 (x5))], [⟨true, .flat 2 (.ints .i64 c0)⟩, ⟨true, .flat 520 (.ints .u8 c1)⟩, ⟨true, .flat 0 (.ints .u8 rv4)⟩]⟩

noncomputable def impl_IsSubcoalgebra_n.sx0_0 : St := ⟨sl 34 [], []⟩

theorem impl_IsSubcoalgebra_n.b0_gen {ρ : Type} (N : Nat) (K : AV → Heap → Option ρ) (L0 : St → Option ρ) (kv : XE → St → Option ρ) (c0 : Nat → Int) (c1 : Nat → Int) (rv3 : Nat) (rv4 : Nat → Int) (x5 : Int) :
    xcode (E72 N) ents impl_IsSubcoalgebra_n.kp 0 N (cL (cK (cB (cA (cB (cB (cB impl_IsSubcoalgebra_n.bd))))))) 0 (impl_IsSubcoalgebra_n.st0 c0 c1 rv3 rv4 x5) (roundK impl_IsSubcoalgebra_n.kp 0 0 L0 (mixK (impl_IsSubcoalgebra_n.fin N K .ret) kv)) = (impl_IsSubcoalgebra_n.b0 N (fun d0 d1 => K (.tup [.bool (d0), .int .i64 (d1)]) []) (fun x5 => L0 (impl_IsSubcoalgebra_n.st0 c0 c1 rv3 rv4 x5)) (kv (.exit 0) (impl_IsSubcoalgebra_n.sx0_0)) c0 c1 rv3 rv4 x5) := by kernel_rfl

theorem impl_IsSubcoalgebra_n.b0_eq {ρ : Type} (N : Nat) (K : AV → Heap → Option ρ) (L0 : St → Option ρ) (c0 : Nat → Int) (c1 : Nat → Int) (rv3 : Nat) (rv4 : Nat → Int) (x5 : Int) :
    xcode (E72 N) ents impl_IsSubcoalgebra_n.kp 0 N (cL (cK (cB (cA (cB (cB (cB impl_IsSubcoalgebra_n.bd))))))) 0 (impl_IsSubcoalgebra_n.st0 c0 c1 rv3 rv4 x5) (roundK impl_IsSubcoalgebra_n.kp 0 0 L0 (impl_IsSubcoalgebra_n.k0 N K)) = (impl_IsSubcoalgebra_n.b0 N (fun d0 d1 => K (.tup [.bool (d0), .int .i64 (d1)]) []) (fun x5 => L0 (impl_IsSubcoalgebra_n.st0 c0 c1 rv3 rv4 x5)) ((impl_IsSubcoalgebra_n.k0 N K) (.exit 0) (impl_IsSubcoalgebra_n.sx0_0)) c0 c1 rv3 rv4 x5) := by
  have h := impl_IsSubcoalgebra_n.b0_gen N K L0 (impl_IsSubcoalgebra_n.k0 N K) c0 c1 rv3 rv4 x5
  rw [impl_IsSubcoalgebra_n.k0_mix] at h
  exact h

theorem impl_IsSubcoalgebra_n.a0_0_eq {ρ : Type} (N : Nat) (K : AV → Heap → Option ρ) :
    (impl_IsSubcoalgebra_n.k0 N K) (.exit 0) (impl_IsSubcoalgebra_n.sx0_0) = (impl_IsSubcoalgebra_n.a0_0 N (fun d0 d1 => K (.tup [.bool (d0), .int .i64 (d1)]) [])) := by kernel_rfl

theorem impl_IsSubcoalgebra_n.l0_eq {ρ : Type} (N : Nat) (K : AV → Heap → Option ρ) (c0 : Nat → Int) (c1 : Nat → Int) (rv3 : Nat) (rv4 : Nat → Int) :
    ∀ (m : Nat) (x5 : Int), xloop (xcode (E72 N) ents impl_IsSubcoalgebra_n.kp 0 N (cL (cK (cB (cA (cB (cB (cB impl_IsSubcoalgebra_n.bd))))))) 0) impl_IsSubcoalgebra_n.kp 0 0 m (impl_IsSubcoalgebra_n.st0 c0 c1 rv3 rv4 x5) (impl_IsSubcoalgebra_n.k0 N K) = (impl_IsSubcoalgebra_n.l0 N (fun d0 d1 => K (.tup [.bool (d0), .int .i64 (d1)]) []) c0 c1 rv3 rv4 ((impl_IsSubcoalgebra_n.k0 N K) (.exit 0) (impl_IsSubcoalgebra_n.sx0_0)) m x5) := by
  intro m
  induction m with
  | zero => intros; rfl
  | succ m ih =>
    intro x5
    refine (impl_IsSubcoalgebra_n.b0_eq N K (fun s => xloop (xcode (E72 N) ents impl_IsSubcoalgebra_n.kp 0 N (cL (cK (cB (cA (cB (cB (cB impl_IsSubcoalgebra_n.bd))))))) 0) impl_IsSubcoalgebra_n.kp 0 0 m s (impl_IsSubcoalgebra_n.k0 N K)) c0 c1 rv3 rv4 x5).trans ?_
    simp only [ih]
    kernel_rfl

theorem impl_IsSubcoalgebra_n.s_eq {ρ : Type} (N : Nat) (K : AV → Heap → Option ρ) (c0 : Nat → Int) (c1 : Nat → Int) :
    xbody (E72 N) ents impl_IsSubcoalgebra_n.kp N Go.Proofs.Try.f49 impl_IsSubcoalgebra_n.bd [.agg [⟨.i64, 2, c0⟩, ⟨.u8, 520, c1⟩], .nils] [] K = (impl_IsSubcoalgebra_n.s N (fun d0 d1 => K (.tup [.bool (d0), .int .i64 (d1)]) []) (fun rv3 rv4 x5 => xloop (xcode (E72 N) ents impl_IsSubcoalgebra_n.kp 0 N (cL (cK (cB (cA (cB (cB (cB impl_IsSubcoalgebra_n.bd))))))) 0) impl_IsSubcoalgebra_n.kp 0 0 N (impl_IsSubcoalgebra_n.st0 c0 c1 rv3 rv4 x5) (impl_IsSubcoalgebra_n.k0 N K)) c0 c1) := by kernel_rfl

theorem impl_IsSubcoalgebra_n.eq {ρ : Type} (N : Nat) (K : AV → Heap → Option ρ) (c0 : Nat → Int) (c1 : Nat → Int) :
    xbody (E72 N) ents impl_IsSubcoalgebra_n.kp N Go.Proofs.Try.f49 impl_IsSubcoalgebra_n.bd [.agg [⟨.i64, 2, c0⟩, ⟨.u8, 520, c1⟩], .nils] [] K = (impl_IsSubcoalgebra_n N (fun d0 d1 => K (.tup [.bool (d0), .int .i64 (d1)]) []) c0 c1) := by
  refine (impl_IsSubcoalgebra_n.s_eq N K c0 c1).trans ?_
  simp only [impl_IsSubcoalgebra_n.l0_eq, impl_IsSubcoalgebra_n.a0_0_eq]
  kernel_rfl

noncomputable def impl_IsSubcoalgebra_s.en (N : Nat) (ρ : Type) : List AV → Heap → (AV → Heap → Option ρ) → Option ρ
  | [.agg [⟨.i64, 2, c0⟩, ⟨.u8, 520, c1⟩], .slice true 0 0 list2 (.exact list3) 8], [⟨false, .flat gv4 (.ints .u8 gv5)⟩], K => (impl_IsSubcoalgebra_s N (fun d0 d1 => K (.tup [.bool (d0), .int .i64 (d1)]) [⟨false, .flat gv4 (.ints .u8 gv5)⟩]) c0 c1 list2 list3 gv4 gv5)
  | [.agg [⟨.i64, 2, c0⟩, ⟨.u8, 520, c1⟩], .nils], [], K => (impl_IsSubcoalgebra_n N (fun d0 d1 => K (.tup [.bool (d0), .int .i64 (d1)]) []) c0 c1)
  | _, _, _ => none

theorem impl_IsSubcoalgebra_s.en_ok (N : Nat) (hE : EnvOk (E72 N) ents) (ρ : Type) (args : List AV) (sh : Heap) (K : AV → Heap → Option ρ) (r : ρ) (h : impl_IsSubcoalgebra_s.en N ρ args sh K = some r) : ∃ v sh', K v sh' = some r ∧ FnOk (E72 N).P 49 args sh v sh' := by
  unfold impl_IsSubcoalgebra_s.en at h
  split at h
  · exact fn_ok hE (kp := impl_IsSubcoalgebra_s.kp) (N := N) Go.Proofs.Try.func49 (c := impl_IsSubcoalgebra_s.bd) (by kernel_rfl) ((impl_IsSubcoalgebra_s.eq N _ _ _ _ _ _ _).trans h)
  · exact fn_ok hE (kp := impl_IsSubcoalgebra_n.kp) (N := N) Go.Proofs.Try.func49 (c := impl_IsSubcoalgebra_n.bd) (by kernel_rfl) ((impl_IsSubcoalgebra_n.eq N _ _ _).trans h)
  · cases h

noncomputable def E73 (N : Nat) : Env := (E72 N).add 49 (impl_IsSubcoalgebra_s.en N)

theorem E73_ok (N : Nat) : EnvOk (E73 N) ents := Env.add_ok (E72_ok N) (impl_IsSubcoalgebra_s.en_ok N (E72_ok N))

noncomputable def laws_eqVector.kp : Keeps := ⟨[(0, [2, 3, 5], [], [])], [(0, [], [], [])], []⟩

noncomputable def laws_eqVector.bd : Code := bodyOf Go.Proofs.Try.f69

noncomputable def laws_eqVector.fin {ρ : Type} (N : Nat) (K : AV → Heap → Option ρ) : XE → St → Option ρ := finK (E73 N) laws_eqVector.kp.fins Go.Proofs.Try.f69 [] K

noncomputable def laws_eqVector.k0 {ρ : Type} (N : Nat) (K : AV → Heap → Option ρ) : XE → St → Option ρ := (blockK laws_eqVector.kp 0 0 (seqK (xcode (E73 N) ents laws_eqVector.kp 0 N (cB (cB laws_eqVector.bd)) 0) (laws_eqVector.fin N K)))

theorem laws_eqVector.k0_mix {ρ : Type} (N : Nat) (K : AV → Heap → Option ρ) : mixK (laws_eqVector.fin N K .ret) (laws_eqVector.k0 N K) = (laws_eqVector.k0 N K) := by
  funext e s; cases e <;> kernel_rfl

noncomputable def laws_eqVector.st0 (av0 : Nat → Int) (bv1 : Nat → Int) (i2 : Int) : St := ⟨sl 17 [(2, .sptr [(0, 8)]), (3, .sptr [(1, 8)]), (5, .int .i64 (i2))], [⟨true, .flat 8 (.ints .u8 av0)⟩, ⟨true, .flat 8 (.ints .u8 bv1)⟩]⟩

noncomputable def laws_eqVector.sx0_0 : St := ⟨sl 17 [], []⟩

theorem laws_eqVector.b0_gen {ρ : Type} (N : Nat) (K : AV → Heap → Option ρ) (L0 : St → Option ρ) (kv : XE → St → Option ρ) (av0 : Nat → Int) (bv1 : Nat → Int) (i2 : Int) :
    xcode (E73 N) ents laws_eqVector.kp 0 N (cL (cK (cB (cA (cB laws_eqVector.bd))))) 0 (laws_eqVector.st0 av0 bv1 i2) (roundK laws_eqVector.kp 0 0 L0 (mixK (laws_eqVector.fin N K .ret) kv)) = (laws_eqVector.b0 N (fun d0 => K (.bool (d0)) []) (fun i2 => L0 (laws_eqVector.st0 av0 bv1 i2)) (kv (.exit 0) (laws_eqVector.sx0_0)) av0 bv1 i2) := by kernel_rfl

theorem laws_eqVector.b0_eq {ρ : Type} (N : Nat) (K : AV → Heap → Option ρ) (L0 : St → Option ρ) (av0 : Nat → Int) (bv1 : Nat → Int) (i2 : Int) :
    xcode (E73 N) ents laws_eqVector.kp 0 N (cL (cK (cB (cA (cB laws_eqVector.bd))))) 0 (laws_eqVector.st0 av0 bv1 i2) (roundK laws_eqVector.kp 0 0 L0 (laws_eqVector.k0 N K)) = (laws_eqVector.b0 N (fun d0 => K (.bool (d0)) []) (fun i2 => L0 (laws_eqVector.st0 av0 bv1 i2)) ((laws_eqVector.k0 N K) (.exit 0) (laws_eqVector.sx0_0)) av0 bv1 i2) := by
  have h := laws_eqVector.b0_gen N K L0 (laws_eqVector.k0 N K) av0 bv1 i2
  rw [laws_eqVector.k0_mix] at h
  exact h

theorem laws_eqVector.a0_0_eq {ρ : Type} (N : Nat) (K : AV → Heap → Option ρ) :
    (laws_eqVector.k0 N K) (.exit 0) (laws_eqVector.sx0_0) = (laws_eqVector.a0_0 N (fun d0 => K (.bool (d0)) [])) := by kernel_rfl

theorem laws_eqVector.l0_eq {ρ : Type} (N : Nat) (K : AV → Heap → Option ρ) (av0 : Nat → Int) (bv1 : Nat → Int) :
    ∀ (m : Nat) (i2 : Int), xloop (xcode (E73 N) ents laws_eqVector.kp 0 N (cL (cK (cB (cA (cB laws_eqVector.bd))))) 0) laws_eqVector.kp 0 0 m (laws_eqVector.st0 av0 bv1 i2) (laws_eqVector.k0 N K) = (laws_eqVector.l0 N (fun d0 => K (.bool (d0)) []) av0 bv1 ((laws_eqVector.k0 N K) (.exit 0) (laws_eqVector.sx0_0)) m i2) := by
  intro m
  induction m with
  | zero => intros; rfl
  | succ m ih =>
    intro i2
    refine (laws_eqVector.b0_eq N K (fun s => xloop (xcode (E73 N) ents laws_eqVector.kp 0 N (cL (cK (cB (cA (cB laws_eqVector.bd))))) 0) laws_eqVector.kp 0 0 m s (laws_eqVector.k0 N K)) av0 bv1 i2).trans ?_
    simp only [ih]
    kernel_rfl

theorem laws_eqVector.s_eq {ρ : Type} (N : Nat) (K : AV → Heap → Option ρ) (av0 : Nat → Int) (bv1 : Nat → Int) :
    xbody (E73 N) ents laws_eqVector.kp N Go.Proofs.Try.f69 laws_eqVector.bd [.agg [⟨.u8, 8, av0⟩], .agg [⟨.u8, 8, bv1⟩]] [] K = (laws_eqVector.s N (fun d0 => K (.bool (d0)) []) (fun i2 => xloop (xcode (E73 N) ents laws_eqVector.kp 0 N (cL (cK (cB (cA (cB laws_eqVector.bd))))) 0) laws_eqVector.kp 0 0 N (laws_eqVector.st0 av0 bv1 i2) (laws_eqVector.k0 N K))) := by kernel_rfl

theorem laws_eqVector.eq {ρ : Type} (N : Nat) (K : AV → Heap → Option ρ) (av0 : Nat → Int) (bv1 : Nat → Int) :
    xbody (E73 N) ents laws_eqVector.kp N Go.Proofs.Try.f69 laws_eqVector.bd [.agg [⟨.u8, 8, av0⟩], .agg [⟨.u8, 8, bv1⟩]] [] K = (laws_eqVector N (fun d0 => K (.bool (d0)) []) av0 bv1) := by
  refine (laws_eqVector.s_eq N K av0 bv1).trans ?_
  simp only [laws_eqVector.l0_eq, laws_eqVector.a0_0_eq]
  kernel_rfl

noncomputable def laws_eqVector.en (N : Nat) (ρ : Type) : List AV → Heap → (AV → Heap → Option ρ) → Option ρ
  | [.agg [⟨.u8, 8, av0⟩], .agg [⟨.u8, 8, bv1⟩]], [], K => (laws_eqVector N (fun d0 => K (.bool (d0)) []) av0 bv1)
  | _, _, _ => none

theorem laws_eqVector.en_ok (N : Nat) (hE : EnvOk (E73 N) ents) (ρ : Type) (args : List AV) (sh : Heap) (K : AV → Heap → Option ρ) (r : ρ) (h : laws_eqVector.en N ρ args sh K = some r) : ∃ v sh', K v sh' = some r ∧ FnOk (E73 N).P 69 args sh v sh' := by
  unfold laws_eqVector.en at h
  split at h
  · exact fn_ok hE (kp := laws_eqVector.kp) (N := N) Go.Proofs.Try.func69 (c := laws_eqVector.bd) (by kernel_rfl) ((laws_eqVector.eq N _ _ _).trans h)
  · cases h

noncomputable def E74 (N : Nat) : Env := (E73 N).add 69 (laws_eqVector.en N)

theorem E74_ok (N : Nat) : EnvOk (E74 N) ents := Env.add_ok (E73_ok N) (laws_eqVector.en_ok N (E73_ok N))

noncomputable def laws_eqVectorS_ss.kp : Keeps := ⟨[(0, [0, 1, 5], [], [])], [(0, [], [], [])], []⟩

noncomputable def laws_eqVectorS_ss.bd : Code := bodyOf Go.Proofs.Try.f38

noncomputable def laws_eqVectorS_ss.fin {ρ : Type} (N : Nat) (K : AV → Heap → Option ρ) (gv4 : Nat) (gv5 : Nat → Int) (gv6 : Nat) (gv7 : Nat → Int) : XE → St → Option ρ := finK (E74 N) laws_eqVectorS_ss.kp.fins Go.Proofs.Try.f38 [⟨false, .flat gv4 (.ints .u8 gv5)⟩, ⟨false, .flat gv6 (.ints .u8 gv7)⟩] K

noncomputable def laws_eqVectorS_ss.k0 {ρ : Type} (N : Nat) (K : AV → Heap → Option ρ) (gv4 : Nat) (gv5 : Nat → Int) (gv6 : Nat) (gv7 : Nat → Int) : XE → St → Option ρ := (blockK laws_eqVectorS_ss.kp 2 0 (seqK (xcode (E74 N) ents laws_eqVectorS_ss.kp 2 N (cB (cB (cB laws_eqVectorS_ss.bd))) 0) (laws_eqVectorS_ss.fin N K gv4 gv5 gv6 gv7)))

theorem laws_eqVectorS_ss.k0_mix {ρ : Type} (N : Nat) (K : AV → Heap → Option ρ) (gv4 : Nat) (gv5 : Nat → Int) (gv6 : Nat) (gv7 : Nat → Int) : mixK (laws_eqVectorS_ss.fin N K gv4 gv5 gv6 gv7 .ret) (laws_eqVectorS_ss.k0 N K gv4 gv5 gv6 gv7) = (laws_eqVectorS_ss.k0 N K gv4 gv5 gv6 gv7) := by
  funext e s; cases e <;> kernel_rfl

noncomputable def laws_eqVectorS_ss.st0 (av0 : Nat) (av1 : Nat) (bv2 : Nat) (bv3 : Nat) (gv4 : Nat) (gv5 : Nat → Int) (gv6 : Nat) (gv7 : Nat → Int) (i8 : Int) : St := ⟨sl 27 [(0, .slice true 0 0 av0 (.exact av1) 8), (1, .slice true 1 0 bv2 (.exact bv3) 8), (5, .int .i64 (i8))], [⟨false, .flat gv4 (.ints .u8 gv5)⟩, ⟨false, .flat gv6 (.ints .u8 gv7)⟩]⟩

noncomputable def laws_eqVectorS_ss.sx0_0 (gv4 : Nat) (gv5 : Nat → Int) (gv6 : Nat) (gv7 : Nat → Int) : St := ⟨sl 27 [], [⟨false, .flat gv4 (.ints .u8 gv5)⟩, ⟨false, .flat gv6 (.ints .u8 gv7)⟩]⟩

theorem laws_eqVectorS_ss.b0_gen {ρ : Type} (N : Nat) (K : AV → Heap → Option ρ) (L0 : St → Option ρ) (kv : XE → St → Option ρ) (av0 : Nat) (av1 : Nat) (bv2 : Nat) (bv3 : Nat) (gv4 : Nat) (gv5 : Nat → Int) (gv6 : Nat) (gv7 : Nat → Int) (i8 : Int) :
    xcode (E74 N) ents laws_eqVectorS_ss.kp 2 N (cL (cK (cB (cA (cB (cB laws_eqVectorS_ss.bd)))))) 0 (laws_eqVectorS_ss.st0 av0 av1 bv2 bv3 gv4 gv5 gv6 gv7 i8) (roundK laws_eqVectorS_ss.kp 2 0 L0 (mixK (laws_eqVectorS_ss.fin N K gv4 gv5 gv6 gv7 .ret) kv)) = (laws_eqVectorS_ss.b0 N (fun d0 => K (.bool (d0)) [⟨false, .flat gv4 (.ints .u8 gv5)⟩, ⟨false, .flat gv6 (.ints .u8 gv7)⟩]) (fun i8 => L0 (laws_eqVectorS_ss.st0 av0 av1 bv2 bv3 gv4 gv5 gv6 gv7 i8)) (kv (.exit 0) (laws_eqVectorS_ss.sx0_0 gv4 gv5 gv6 gv7)) av0 bv2 gv5 gv7 i8) := by kernel_rfl

theorem laws_eqVectorS_ss.b0_eq {ρ : Type} (N : Nat) (K : AV → Heap → Option ρ) (L0 : St → Option ρ) (av0 : Nat) (av1 : Nat) (bv2 : Nat) (bv3 : Nat) (gv4 : Nat) (gv5 : Nat → Int) (gv6 : Nat) (gv7 : Nat → Int) (i8 : Int) :
    xcode (E74 N) ents laws_eqVectorS_ss.kp 2 N (cL (cK (cB (cA (cB (cB laws_eqVectorS_ss.bd)))))) 0 (laws_eqVectorS_ss.st0 av0 av1 bv2 bv3 gv4 gv5 gv6 gv7 i8) (roundK laws_eqVectorS_ss.kp 2 0 L0 (laws_eqVectorS_ss.k0 N K gv4 gv5 gv6 gv7)) = (laws_eqVectorS_ss.b0 N (fun d0 => K (.bool (d0)) [⟨false, .flat gv4 (.ints .u8 gv5)⟩, ⟨false, .flat gv6 (.ints .u8 gv7)⟩]) (fun i8 => L0 (laws_eqVectorS_ss.st0 av0 av1 bv2 bv3 gv4 gv5 gv6 gv7 i8)) ((laws_eqVectorS_ss.k0 N K gv4 gv5 gv6 gv7) (.exit 0) (laws_eqVectorS_ss.sx0_0 gv4 gv5 gv6 gv7)) av0 bv2 gv5 gv7 i8) := by
  have h := laws_eqVectorS_ss.b0_gen N K L0 (laws_eqVectorS_ss.k0 N K gv4 gv5 gv6 gv7) av0 av1 bv2 bv3 gv4 gv5 gv6 gv7 i8
  rw [laws_eqVectorS_ss.k0_mix] at h
  exact h

theorem laws_eqVectorS_ss.a0_0_eq {ρ : Type} (N : Nat) (K : AV → Heap → Option ρ) (gv4 : Nat) (gv5 : Nat → Int) (gv6 : Nat) (gv7 : Nat → Int) :
    (laws_eqVectorS_ss.k0 N K gv4 gv5 gv6 gv7) (.exit 0) (laws_eqVectorS_ss.sx0_0 gv4 gv5 gv6 gv7) = (laws_eqVectorS_ss.a0_0 N (fun d0 => K (.bool (d0)) [⟨false, .flat gv4 (.ints .u8 gv5)⟩, ⟨false, .flat gv6 (.ints .u8 gv7)⟩])) := by kernel_rfl

theorem laws_eqVectorS_ss.l0_eq {ρ : Type} (N : Nat) (K : AV → Heap → Option ρ) (av0 : Nat) (av1 : Nat) (bv2 : Nat) (bv3 : Nat) (gv4 : Nat) (gv5 : Nat → Int) (gv6 : Nat) (gv7 : Nat → Int) :
    ∀ (m : Nat) (i8 : Int), xloop (xcode (E74 N) ents laws_eqVectorS_ss.kp 2 N (cL (cK (cB (cA (cB (cB laws_eqVectorS_ss.bd)))))) 0) laws_eqVectorS_ss.kp 2 0 m (laws_eqVectorS_ss.st0 av0 av1 bv2 bv3 gv4 gv5 gv6 gv7 i8) (laws_eqVectorS_ss.k0 N K gv4 gv5 gv6 gv7) = (laws_eqVectorS_ss.l0 N (fun d0 => K (.bool (d0)) [⟨false, .flat gv4 (.ints .u8 gv5)⟩, ⟨false, .flat gv6 (.ints .u8 gv7)⟩]) av0 bv2 gv5 gv7 ((laws_eqVectorS_ss.k0 N K gv4 gv5 gv6 gv7) (.exit 0) (laws_eqVectorS_ss.sx0_0 gv4 gv5 gv6 gv7)) m i8) := by
  intro m
  induction m with
  | zero => intros; rfl
  | succ m ih =>
    intro i8
    refine (laws_eqVectorS_ss.b0_eq N K (fun s => xloop (xcode (E74 N) ents laws_eqVectorS_ss.kp 2 N (cL (cK (cB (cA (cB (cB laws_eqVectorS_ss.bd)))))) 0) laws_eqVectorS_ss.kp 2 0 m s (laws_eqVectorS_ss.k0 N K gv4 gv5 gv6 gv7)) av0 av1 bv2 bv3 gv4 gv5 gv6 gv7 i8).trans ?_
    simp only [ih]
    kernel_rfl

theorem laws_eqVectorS_ss.s_eq {ρ : Type} (N : Nat) (K : AV → Heap → Option ρ) (av0 : Nat) (av1 : Nat) (bv2 : Nat) (bv3 : Nat) (gv4 : Nat) (gv5 : Nat → Int) (gv6 : Nat) (gv7 : Nat → Int) :
    xbody (E74 N) ents laws_eqVectorS_ss.kp N Go.Proofs.Try.f38 laws_eqVectorS_ss.bd [.slice true 0 0 av0 (.exact av1) 8, .slice true 1 0 bv2 (.exact bv3) 8] [⟨false, .flat gv4 (.ints .u8 gv5)⟩, ⟨false, .flat gv6 (.ints .u8 gv7)⟩] K = (laws_eqVectorS_ss.s N (fun d0 => K (.bool (d0)) [⟨false, .flat gv4 (.ints .u8 gv5)⟩, ⟨false, .flat gv6 (.ints .u8 gv7)⟩]) (fun i8 => xloop (xcode (E74 N) ents laws_eqVectorS_ss.kp 2 N (cL (cK (cB (cA (cB (cB laws_eqVectorS_ss.bd)))))) 0) laws_eqVectorS_ss.kp 2 0 N (laws_eqVectorS_ss.st0 av0 av1 bv2 bv3 gv4 gv5 gv6 gv7 i8) (laws_eqVectorS_ss.k0 N K gv4 gv5 gv6 gv7)) av0 bv2) := by kernel_rfl

theorem laws_eqVectorS_ss.eq {ρ : Type} (N : Nat) (K : AV → Heap → Option ρ) (av0 : Nat) (av1 : Nat) (bv2 : Nat) (bv3 : Nat) (gv4 : Nat) (gv5 : Nat → Int) (gv6 : Nat) (gv7 : Nat → Int) :
    xbody (E74 N) ents laws_eqVectorS_ss.kp N Go.Proofs.Try.f38 laws_eqVectorS_ss.bd [.slice true 0 0 av0 (.exact av1) 8, .slice true 1 0 bv2 (.exact bv3) 8] [⟨false, .flat gv4 (.ints .u8 gv5)⟩, ⟨false, .flat gv6 (.ints .u8 gv7)⟩] K = (laws_eqVectorS_ss N (fun d0 => K (.bool (d0)) [⟨false, .flat gv4 (.ints .u8 gv5)⟩, ⟨false, .flat gv6 (.ints .u8 gv7)⟩]) av0 av1 bv2 bv3 gv4 gv5 gv6 gv7) := by
  refine (laws_eqVectorS_ss.s_eq N K av0 av1 bv2 bv3 gv4 gv5 gv6 gv7).trans ?_
  simp only [laws_eqVectorS_ss.l0_eq, laws_eqVectorS_ss.a0_0_eq]
  kernel_rfl

noncomputable def laws_eqVectorS_ss.en (N : Nat) (ρ : Type) : List AV → Heap → (AV → Heap → Option ρ) → Option ρ
  | [.slice true 0 0 av0 (.exact av1) 8, .slice true 1 0 bv2 (.exact bv3) 8], [⟨false, .flat gv4 (.ints .u8 gv5)⟩, ⟨false, .flat gv6 (.ints .u8 gv7)⟩], K => (laws_eqVectorS_ss N (fun d0 => K (.bool (d0)) [⟨false, .flat gv4 (.ints .u8 gv5)⟩, ⟨false, .flat gv6 (.ints .u8 gv7)⟩]) av0 av1 bv2 bv3 gv4 gv5 gv6 gv7)
  | _, _, _ => none

theorem laws_eqVectorS_ss.en_ok (N : Nat) (hE : EnvOk (E74 N) ents) (ρ : Type) (args : List AV) (sh : Heap) (K : AV → Heap → Option ρ) (r : ρ) (h : laws_eqVectorS_ss.en N ρ args sh K = some r) : ∃ v sh', K v sh' = some r ∧ FnOk (E74 N).P 38 args sh v sh' := by
  unfold laws_eqVectorS_ss.en at h
  split at h
  · exact fn_ok hE (kp := laws_eqVectorS_ss.kp) (N := N) Go.Proofs.Try.func38 (c := laws_eqVectorS_ss.bd) (by kernel_rfl) ((laws_eqVectorS_ss.eq N _ _ _ _ _ _ _ _ _).trans h)
  · cases h

noncomputable def E75 (N : Nat) : Env := (E74 N).add 38 (laws_eqVectorS_ss.en N)

theorem E75_ok (N : Nat) : EnvOk (E75 N) ents := Env.add_ok (E74_ok N) (laws_eqVectorS_ss.en_ok N (E74_ok N))

noncomputable def laws_intactVectorS_ss.kp : Keeps := ⟨[], [], []⟩

noncomputable def laws_intactVectorS_ss.bd : Code := bodyOf Go.Proofs.Try.f50

noncomputable def laws_intactVectorS_ss.fin {ρ : Type} (N : Nat) (K : AV → Heap → Option ρ) (gv4 : Nat) (gv5 : Nat → Int) (gv6 : Nat) (gv7 : Nat → Int) : XE → St → Option ρ := finK (E75 N) laws_intactVectorS_ss.kp.fins Go.Proofs.Try.f50 [⟨false, .flat gv4 (.ints .u8 gv5)⟩, ⟨false, .flat gv6 (.ints .u8 gv7)⟩] K

theorem laws_intactVectorS_ss.eq {ρ : Type} (N : Nat) (K : AV → Heap → Option ρ) (x0 : Nat) (x1 : Nat) (y2 : Nat) (y3 : Nat) (gv4 : Nat) (gv5 : Nat → Int) (gv6 : Nat) (gv7 : Nat → Int) :
    xbody (E75 N) ents laws_intactVectorS_ss.kp N Go.Proofs.Try.f50 laws_intactVectorS_ss.bd [.slice true 0 0 x0 (.exact x1) 8, .slice true 1 0 y2 (.exact y3) 8] [⟨false, .flat gv4 (.ints .u8 gv5)⟩, ⟨false, .flat gv6 (.ints .u8 gv7)⟩] K = (laws_intactVectorS_ss N (fun d0 => K (.bool (d0)) [⟨false, .flat gv4 (.ints .u8 gv5)⟩, ⟨false, .flat gv6 (.ints .u8 gv7)⟩]) x0 x1 y2 y3 gv4 gv5 gv6 gv7) := by kernel_rfl

noncomputable def laws_intactVectorS_ss.en (N : Nat) (ρ : Type) : List AV → Heap → (AV → Heap → Option ρ) → Option ρ
  | [.slice true 0 0 x0 (.exact x1) 8, .slice true 1 0 y2 (.exact y3) 8], [⟨false, .flat gv4 (.ints .u8 gv5)⟩, ⟨false, .flat gv6 (.ints .u8 gv7)⟩], K => (laws_intactVectorS_ss N (fun d0 => K (.bool (d0)) [⟨false, .flat gv4 (.ints .u8 gv5)⟩, ⟨false, .flat gv6 (.ints .u8 gv7)⟩]) x0 x1 y2 y3 gv4 gv5 gv6 gv7)
  | _, _, _ => none

theorem laws_intactVectorS_ss.en_ok (N : Nat) (hE : EnvOk (E75 N) ents) (ρ : Type) (args : List AV) (sh : Heap) (K : AV → Heap → Option ρ) (r : ρ) (h : laws_intactVectorS_ss.en N ρ args sh K = some r) : ∃ v sh', K v sh' = some r ∧ FnOk (E75 N).P 50 args sh v sh' := by
  unfold laws_intactVectorS_ss.en at h
  split at h
  · exact fn_ok hE (kp := laws_intactVectorS_ss.kp) (N := N) Go.Proofs.Try.func50 (c := laws_intactVectorS_ss.bd) (by kernel_rfl) ((laws_intactVectorS_ss.eq N _ _ _ _ _ _ _ _ _).trans h)
  · cases h

noncomputable def E76 (N : Nat) : Env := (E75 N).add 50 (laws_intactVectorS_ss.en N)

theorem E76_ok (N : Nat) : EnvOk (E76 N) ents := Env.add_ok (E75_ok N) (laws_intactVectorS_ss.en_ok N (E75_ok N))

noncomputable def laws_FnExactIsSubcoalgebra_su.kp : Keeps := ⟨[], [], []⟩

noncomputable def laws_FnExactIsSubcoalgebra_su.bd : Code := bodyOf Go.Proofs.Try.f13

noncomputable def laws_FnExactIsSubcoalgebra_su.fin {ρ : Type} (N : Nat) (K : AV → Heap → Option ρ) (gv3 : Nat) (gv4 : Nat → Int) : XE → St → Option ρ := finK (E76 N) laws_FnExactIsSubcoalgebra_su.kp.fins Go.Proofs.Try.f13 [⟨false, .flat gv3 (.ints .u8 gv4)⟩] K

theorem laws_FnExactIsSubcoalgebra_su.eq {ρ : Type} (N : Nat) (K : AV → Heap → Option ρ) (aC0 : Nat → Int) (aC1 : Nat → Int) (aList2 : Nat) (gv3 : Nat) (gv4 : Nat → Int) :
    xbody (E76 N) ents laws_FnExactIsSubcoalgebra_su.kp N Go.Proofs.Try.f13 laws_FnExactIsSubcoalgebra_su.bd [.agg [⟨.i64, 2, aC0⟩, ⟨.u8, 520, aC1⟩], .slice false 0 0 aList2 .unk 8] [⟨false, .flat gv3 (.ints .u8 gv4)⟩] K = (laws_FnExactIsSubcoalgebra_su N (fun d0 => K (.bool (d0)) [⟨false, .flat gv3 (.ints .u8 gv4)⟩]) aC0 aC1 aList2 gv3 gv4) := by kernel_rfl

noncomputable def laws_FnExactIsSubcoalgebra_su.en (N : Nat) (ρ : Type) : List AV → Heap → (AV → Heap → Option ρ) → Option ρ
  | [.agg [⟨.i64, 2, aC0⟩, ⟨.u8, 520, aC1⟩], .slice false 0 0 aList2 .unk 8], [⟨false, .flat gv3 (.ints .u8 gv4)⟩], K => (laws_FnExactIsSubcoalgebra_su N (fun d0 => K (.bool (d0)) [⟨false, .flat gv3 (.ints .u8 gv4)⟩]) aC0 aC1 aList2 gv3 gv4)
  | _, _, _ => none

theorem laws_FnExactIsSubcoalgebra_su.en_ok (N : Nat) (hE : EnvOk (E76 N) ents) (ρ : Type) (args : List AV) (sh : Heap) (K : AV → Heap → Option ρ) (r : ρ) (h : laws_FnExactIsSubcoalgebra_su.en N ρ args sh K = some r) : ∃ v sh', K v sh' = some r ∧ FnOk (E76 N).P 13 args sh v sh' := by
  unfold laws_FnExactIsSubcoalgebra_su.en at h
  split at h
  · exact fn_ok hE (kp := laws_FnExactIsSubcoalgebra_su.kp) (N := N) Go.Proofs.Try.func13 (c := laws_FnExactIsSubcoalgebra_su.bd) (by kernel_rfl) ((laws_FnExactIsSubcoalgebra_su.eq N _ _ _ _ _ _).trans h)
  · cases h

noncomputable def E77 (N : Nat) : Env := (E76 N).add 13 (laws_FnExactIsSubcoalgebra_su.en N)

theorem E77_ok (N : Nat) : EnvOk (E77 N) ents := Env.add_ok (E76_ok N) (laws_FnExactIsSubcoalgebra_su.en_ok N (E76_ok N))
end Go.Proofs.Ythecjjnieojjoaa.H
