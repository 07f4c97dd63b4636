/- The program computes these functions. -/
import Derived.Test.YthecjjnieojjoaaHL1
namespace Go.Proofs.Ythecjjnieojjoaa.H
set_option linter.unusedVariables false
set_option linter.unusedSimpArgs false
open Go Go.RowKit Go.Proofs.Ythecjjnieojjoaa.Hy
set_option linter.unusedVariables false
set_option maxRecDepth 100000
noncomputable def impl_Coalgebra_coproduct.kp : Keeps := ⟨[(0, [0, 4, 5, 6, 13, 14], [], []), (2, [0, 4, 5, 6, 7, 8, 13, 14, 19, 20], [], [])], [(0, [4, 6], [], []), (2, [0, 4, 5, 6, 13, 14], [], [])], []⟩

noncomputable def impl_Coalgebra_coproduct.bd : Code := bodyOf Go.Proofs.Try.f68

noncomputable def impl_Coalgebra_coproduct.fin {ρ : Type} (N : Nat) (K : AV → Heap → Option ρ) (gv1 : Nat → Int) (gv2 : Nat → Int) : XE → St → Option ρ := finK (E45 N) impl_Coalgebra_coproduct.kp.fins Go.Proofs.Try.f68 [⟨false, .flat 2 (.ints .i64 gv1)⟩, ⟨false, .flat 520 (.ints .u8 gv2)⟩] K

noncomputable def impl_Coalgebra_coproduct.k0 {ρ : Type} (N : Nat) (K : AV → Heap → Option ρ) (gv1 : Nat → Int) (gv2 : Nat → Int) : XE → St → Option ρ := (blockK impl_Coalgebra_coproduct.kp 2 0 (seqK (xcode (E45 N) ents impl_Coalgebra_coproduct.kp 2 N (cB (cB (cB impl_Coalgebra_coproduct.bd))) 0) (impl_Coalgebra_coproduct.fin N K gv1 gv2)))

theorem impl_Coalgebra_coproduct.k0_mix {ρ : Type} (N : Nat) (K : AV → Heap → Option ρ) (gv1 : Nat → Int) (gv2 : Nat → Int) : mixK (impl_Coalgebra_coproduct.fin N K gv1 gv2 .ret) (impl_Coalgebra_coproduct.k0 N K gv1 gv2) = (impl_Coalgebra_coproduct.k0 N K gv1 gv2) := by
  funext e s; cases e <;> kernel_rfl

noncomputable def impl_Coalgebra_coproduct.st0 (v0 : Nat → Int) (gv1 : Nat → Int) (gv2 : Nat → Int) (rv3 : Nat → Int) (x4 : Int) (gv5 : Nat → Int) : St := ⟨sl 40 [(0, .sptr [(0, 2), (1, 520)]), (4, .sptr [(2, 64)]), (5, .sptr [(3, 2)]), (6, .sptr [(4, 64)]), (13, .agg [⟨.u8, 8, v0⟩]), (14, .int .i64 (x4))], [⟨false, .flat 2 (.ints .i64 gv1)⟩, ⟨false, .flat 520 (.ints .u8 gv2)⟩, ⟨true, .flat 64 (.ints .u8 (fun _ => 0))⟩, ⟨true, .flat 2 (.ints .i64 rv3)⟩, ⟨true, .flat 64 (.ints .u8 gv5)⟩]⟩

noncomputable def impl_Coalgebra_coproduct.sx0_0 (gv1 : Nat → Int) (gv2 : Nat → Int) (ov10 : Nat → Int) : St := ⟨sl 40 [(4, .sptr [(2, 64)]), (6, .sptr [(3, 64)])], [⟨false, .flat 2 (.ints .i64 gv1)⟩, ⟨false, .flat 520 (.ints .u8 gv2)⟩, ⟨true, .flat 64 (.ints .u8 (fun _ => 0))⟩, ⟨true, .flat 64 (.ints .u8 ov10)⟩]⟩

noncomputable def impl_Coalgebra_coproduct.k1g {ρ : Type} (N : Nat) (L0 : St → Option ρ) (kv : XE → St → Option ρ) : XE → St → Option ρ := (blockK impl_Coalgebra_coproduct.kp 2 2 (blockK impl_Coalgebra_coproduct.kp 2 1 (seqK (xcode (E45 N) ents impl_Coalgebra_coproduct.kp 2 N (cB (cB (cB (cL (cK (cB (cA (cB (cB impl_Coalgebra_coproduct.bd))))))))) 0) (roundK impl_Coalgebra_coproduct.kp 2 0 L0 kv))))

theorem impl_Coalgebra_coproduct.k1_mix {ρ : Type} (N : Nat) (K : AV → Heap → Option ρ) (L0 : St → Option ρ) (gv1 : Nat → Int) (gv2 : Nat → Int) : mixK (impl_Coalgebra_coproduct.fin N K gv1 gv2 .ret) (impl_Coalgebra_coproduct.k1g N L0 (impl_Coalgebra_coproduct.k0 N K gv1 gv2)) = (impl_Coalgebra_coproduct.k1g N L0 (impl_Coalgebra_coproduct.k0 N K gv1 gv2)) := by
  funext e s; cases e <;> kernel_rfl

noncomputable def impl_Coalgebra_coproduct.st1 (v0 : Nat → Int) (gv1 : Nat → Int) (gv2 : Nat → Int) (rv3 : Nat → Int) (x4 : Int) (x6 : Int) (gv7 : Nat → Int) : St := ⟨sl 40 [(0, .sptr [(0, 2), (1, 520)]), (4, .sptr [(2, 64)]), (5, .sptr [(3, 2)]), (6, .sptr [(4, 64)]), (7, .int .i64 (x4)), (8, .int .u8 ((v0 x4.toNat))), (13, .agg [⟨.u8, 8, v0⟩]), (14, .int .i64 (x4)), (19, .int .i64 ((rv3 1))), (20, .int .i64 (x6))], [⟨false, .flat 2 (.ints .i64 gv1)⟩, ⟨false, .flat 520 (.ints .u8 gv2)⟩, ⟨true, .flat 64 (.ints .u8 (fun _ => 0))⟩, ⟨true, .flat 2 (.ints .i64 rv3)⟩, ⟨true, .flat 64 (.ints .u8 gv7)⟩]⟩

noncomputable def impl_Coalgebra_coproduct.sx1_0 (v0 : Nat → Int) (gv1 : Nat → Int) (gv2 : Nat → Int) (rv3 : Nat → Int) (x4 : Int) (ov9 : Nat → Int) : St := ⟨sl 40 [(0, .sptr [(0, 2), (1, 520)]), (4, .sptr [(2, 64)]), (5, .sptr [(3, 2)]), (6, .sptr [(4, 64)]), (13, .agg [⟨.u8, 8, v0⟩]), (14, .int .i64 (x4))], [⟨false, .flat 2 (.ints .i64 gv1)⟩, ⟨false, .flat 520 (.ints .u8 gv2)⟩, ⟨true, .flat 64 (.ints .u8 (fun _ => 0))⟩, ⟨true, .flat 2 (.ints .i64 rv3)⟩, ⟨true, .flat 64 (.ints .u8 ov9)⟩]⟩

theorem impl_Coalgebra_coproduct.b1_gen {ρ : Type} (N : Nat) (K : AV → Heap → Option ρ) (L1 : St → Option ρ) (kv : XE → St → Option ρ) (v0 : Nat → Int) (gv1 : Nat → Int) (gv2 : Nat → Int) (rv3 : Nat → Int) (x4 : Int) (x6 : Int) (gv7 : Nat → Int) :
    xcode (E45 N) ents impl_Coalgebra_coproduct.kp 2 N (cL (cK (cB (cB (cK (cA (cB (cB (cL (cK (cB (cA (cB (cB impl_Coalgebra_coproduct.bd)))))))))))))) 2 (impl_Coalgebra_coproduct.st1 v0 gv1 gv2 rv3 x4 x6 gv7) (roundK impl_Coalgebra_coproduct.kp 2 2 L1 (mixK (impl_Coalgebra_coproduct.fin N K gv1 gv2 .ret) kv)) = (impl_Coalgebra_coproduct.b1 N (fun d0 => K (.agg [⟨.u8, 64, d0⟩]) [⟨false, .flat 2 (.ints .i64 gv1)⟩, ⟨false, .flat 520 (.ints .u8 gv2)⟩]) (fun x6 gv7 => L1 (impl_Coalgebra_coproduct.st1 v0 gv1 gv2 rv3 x4 x6 gv7)) (fun ov9 => kv (.exit 2) (impl_Coalgebra_coproduct.sx1_0 v0 gv1 gv2 rv3 x4 ov9)) v0 gv2 rv3 x4 x6 gv7) := by kernel_rfl

theorem impl_Coalgebra_coproduct.b1_eq {ρ : Type} (N : Nat) (K : AV → Heap → Option ρ) (L0 : St → Option ρ) (L1 : St → Option ρ) (v0 : Nat → Int) (gv1 : Nat → Int) (gv2 : Nat → Int) (rv3 : Nat → Int) (x4 : Int) (x6 : Int) (gv7 : Nat → Int) :
    xcode (E45 N) ents impl_Coalgebra_coproduct.kp 2 N (cL (cK (cB (cB (cK (cA (cB (cB (cL (cK (cB (cA (cB (cB impl_Coalgebra_coproduct.bd)))))))))))))) 2 (impl_Coalgebra_coproduct.st1 v0 gv1 gv2 rv3 x4 x6 gv7) (roundK impl_Coalgebra_coproduct.kp 2 2 L1 (impl_Coalgebra_coproduct.k1g N L0 (impl_Coalgebra_coproduct.k0 N K gv1 gv2))) = (impl_Coalgebra_coproduct.b1 N (fun d0 => K (.agg [⟨.u8, 64, d0⟩]) [⟨false, .flat 2 (.ints .i64 gv1)⟩, ⟨false, .flat 520 (.ints .u8 gv2)⟩]) (fun x6 gv7 => L1 (impl_Coalgebra_coproduct.st1 v0 gv1 gv2 rv3 x4 x6 gv7)) (fun ov9 => (impl_Coalgebra_coproduct.k1g N L0 (impl_Coalgebra_coproduct.k0 N K gv1 gv2)) (.exit 2) (impl_Coalgebra_coproduct.sx1_0 v0 gv1 gv2 rv3 x4 ov9)) v0 gv2 rv3 x4 x6 gv7) := by
  have h := impl_Coalgebra_coproduct.b1_gen N K L1 (impl_Coalgebra_coproduct.k1g N L0 (impl_Coalgebra_coproduct.k0 N K gv1 gv2)) v0 gv1 gv2 rv3 x4 x6 gv7
  rw [impl_Coalgebra_coproduct.k1_mix] at h
  exact h

theorem impl_Coalgebra_coproduct.a1_0_gen {ρ : Type} (N : Nat) (K : AV → Heap → Option ρ) (L0 : St → Option ρ) (kv : XE → St → Option ρ) (v0 : Nat → Int) (gv1 : Nat → Int) (gv2 : Nat → Int) (rv3 : Nat → Int) (x4 : Int) (ov9 : Nat → Int) :
    (impl_Coalgebra_coproduct.k1g N L0 (mixK (impl_Coalgebra_coproduct.fin N K gv1 gv2 .ret) kv)) (.exit 2) (impl_Coalgebra_coproduct.sx1_0 v0 gv1 gv2 rv3 x4 ov9) = (impl_Coalgebra_coproduct.a1_0 N (fun d0 => K (.agg [⟨.u8, 64, d0⟩]) [⟨false, .flat 2 (.ints .i64 gv1)⟩, ⟨false, .flat 520 (.ints .u8 gv2)⟩]) (fun x4 gv5 => L0 (impl_Coalgebra_coproduct.st0 v0 gv1 gv2 rv3 x4 gv5)) (fun ov10 => kv (.exit 0) (impl_Coalgebra_coproduct.sx0_0 gv1 gv2 ov10)) x4 ov9) := by kernel_rfl

theorem impl_Coalgebra_coproduct.a1_0_eq {ρ : Type} (N : Nat) (K : AV → Heap → Option ρ) (L0 : St → Option ρ) (v0 : Nat → Int) (gv1 : Nat → Int) (gv2 : Nat → Int) (rv3 : Nat → Int) (x4 : Int) (ov9 : Nat → Int) :
    (impl_Coalgebra_coproduct.k1g N L0 (impl_Coalgebra_coproduct.k0 N K gv1 gv2)) (.exit 2) (impl_Coalgebra_coproduct.sx1_0 v0 gv1 gv2 rv3 x4 ov9) = (impl_Coalgebra_coproduct.a1_0 N (fun d0 => K (.agg [⟨.u8, 64, d0⟩]) [⟨false, .flat 2 (.ints .i64 gv1)⟩, ⟨false, .flat 520 (.ints .u8 gv2)⟩]) (fun x4 gv5 => L0 (impl_Coalgebra_coproduct.st0 v0 gv1 gv2 rv3 x4 gv5)) (fun ov10 => (impl_Coalgebra_coproduct.k0 N K gv1 gv2) (.exit 0) (impl_Coalgebra_coproduct.sx0_0 gv1 gv2 ov10)) x4 ov9) := by
  have h := impl_Coalgebra_coproduct.a1_0_gen N K L0 (impl_Coalgebra_coproduct.k0 N K gv1 gv2) v0 gv1 gv2 rv3 x4 ov9
  rw [impl_Coalgebra_coproduct.k0_mix] at h
  exact h

theorem impl_Coalgebra_coproduct.b0_gen {ρ : Type} (N : Nat) (K : AV → Heap → Option ρ) (L0 : St → Option ρ) (kv : XE → St → Option ρ) (v0 : Nat → Int) (gv1 : Nat → Int) (gv2 : Nat → Int) (rv3 : Nat → Int) (x4 : Int) (gv5 : Nat → Int) :
    xcode (E45 N) ents impl_Coalgebra_coproduct.kp 2 N (cL (cK (cB (cA (cB (cB impl_Coalgebra_coproduct.bd)))))) 0 (impl_Coalgebra_coproduct.st0 v0 gv1 gv2 rv3 x4 gv5) (roundK impl_Coalgebra_coproduct.kp 2 0 L0 (mixK (impl_Coalgebra_coproduct.fin N K gv1 gv2 .ret) kv)) = (impl_Coalgebra_coproduct.b0 N (fun d0 => K (.agg [⟨.u8, 64, d0⟩]) [⟨false, .flat 2 (.ints .i64 gv1)⟩, ⟨false, .flat 520 (.ints .u8 gv2)⟩]) (fun x6 gv7 => xloop (xcode (E45 N) ents impl_Coalgebra_coproduct.kp 2 N (cL (cK (cB (cB (cK (cA (cB (cB (cL (cK (cB (cA (cB (cB impl_Coalgebra_coproduct.bd)))))))))))))) 2) impl_Coalgebra_coproduct.kp 2 2 N (impl_Coalgebra_coproduct.st1 v0 gv1 gv2 rv3 x4 x6 gv7) (impl_Coalgebra_coproduct.k1g N L0 (mixK (impl_Coalgebra_coproduct.fin N K gv1 gv2 .ret) kv))) (fun x4 gv5 => L0 (impl_Coalgebra_coproduct.st0 v0 gv1 gv2 rv3 x4 gv5)) (fun ov10 => kv (.exit 0) (impl_Coalgebra_coproduct.sx0_0 gv1 gv2 ov10)) x4 gv5) := by kernel_rfl

theorem impl_Coalgebra_coproduct.b0_eq {ρ : Type} (N : Nat) (K : AV → Heap → Option ρ) (L0 : St → Option ρ) (v0 : Nat → Int) (gv1 : Nat → Int) (gv2 : Nat → Int) (rv3 : Nat → Int) (x4 : Int) (gv5 : Nat → Int) :
    xcode (E45 N) ents impl_Coalgebra_coproduct.kp 2 N (cL (cK (cB (cA (cB (cB impl_Coalgebra_coproduct.bd)))))) 0 (impl_Coalgebra_coproduct.st0 v0 gv1 gv2 rv3 x4 gv5) (roundK impl_Coalgebra_coproduct.kp 2 0 L0 (impl_Coalgebra_coproduct.k0 N K gv1 gv2)) = (impl_Coalgebra_coproduct.b0 N (fun d0 => K (.agg [⟨.u8, 64, d0⟩]) [⟨false, .flat 2 (.ints .i64 gv1)⟩, ⟨false, .flat 520 (.ints .u8 gv2)⟩]) (fun x6 gv7 => xloop (xcode (E45 N) ents impl_Coalgebra_coproduct.kp 2 N (cL (cK (cB (cB (cK (cA (cB (cB (cL (cK (cB (cA (cB (cB impl_Coalgebra_coproduct.bd)))))))))))))) 2) impl_Coalgebra_coproduct.kp 2 2 N (impl_Coalgebra_coproduct.st1 v0 gv1 gv2 rv3 x4 x6 gv7) (impl_Coalgebra_coproduct.k1g N L0 (impl_Coalgebra_coproduct.k0 N K gv1 gv2))) (fun x4 gv5 => L0 (impl_Coalgebra_coproduct.st0 v0 gv1 gv2 rv3 x4 gv5)) (fun ov10 => (impl_Coalgebra_coproduct.k0 N K gv1 gv2) (.exit 0) (impl_Coalgebra_coproduct.sx0_0 gv1 gv2 ov10)) x4 gv5) := by
  have h := impl_Coalgebra_coproduct.b0_gen N K L0 (impl_Coalgebra_coproduct.k0 N K gv1 gv2) v0 gv1 gv2 rv3 x4 gv5
  rw [impl_Coalgebra_coproduct.k0_mix] at h
  exact h

theorem impl_Coalgebra_coproduct.a0_0_eq {ρ : Type} (N : Nat) (K : AV → Heap → Option ρ) (gv1 : Nat → Int) (gv2 : Nat → Int) (ov10 : Nat → Int) :
    (impl_Coalgebra_coproduct.k0 N K gv1 gv2) (.exit 0) (impl_Coalgebra_coproduct.sx0_0 gv1 gv2 ov10) = (impl_Coalgebra_coproduct.a0_0 N (fun d0 => K (.agg [⟨.u8, 64, d0⟩]) [⟨false, .flat 2 (.ints .i64 gv1)⟩, ⟨false, .flat 520 (.ints .u8 gv2)⟩]) ov10) := by kernel_rfl

theorem impl_Coalgebra_coproduct.l1_eq {ρ : Type} (N : Nat) (K : AV → Heap → Option ρ) (L0 : St → Option ρ) (v0 : Nat → Int) (gv1 : Nat → Int) (gv2 : Nat → Int) (rv3 : Nat → Int) (x4 : Int) :
    ∀ (m : Nat) (x6 : Int) (gv7 : Nat → Int), xloop (xcode (E45 N) ents impl_Coalgebra_coproduct.kp 2 N (cL (cK (cB (cB (cK (cA (cB (cB (cL (cK (cB (cA (cB (cB impl_Coalgebra_coproduct.bd)))))))))))))) 2) impl_Coalgebra_coproduct.kp 2 2 m (impl_Coalgebra_coproduct.st1 v0 gv1 gv2 rv3 x4 x6 gv7) (impl_Coalgebra_coproduct.k1g N L0 (impl_Coalgebra_coproduct.k0 N K gv1 gv2)) = (impl_Coalgebra_coproduct.l1 N (fun d0 => K (.agg [⟨.u8, 64, d0⟩]) [⟨false, .flat 2 (.ints .i64 gv1)⟩, ⟨false, .flat 520 (.ints .u8 gv2)⟩]) v0 gv2 rv3 x4 (fun ov9 => (impl_Coalgebra_coproduct.k1g N L0 (impl_Coalgebra_coproduct.k0 N K gv1 gv2)) (.exit 2) (impl_Coalgebra_coproduct.sx1_0 v0 gv1 gv2 rv3 x4 ov9)) m x6 gv7) := by
  intro m
  induction m with
  | zero => intros; rfl
  | succ m ih =>
    intro x6 gv7
    refine (impl_Coalgebra_coproduct.b1_eq N K L0 (fun s => xloop (xcode (E45 N) ents impl_Coalgebra_coproduct.kp 2 N (cL (cK (cB (cB (cK (cA (cB (cB (cL (cK (cB (cA (cB (cB impl_Coalgebra_coproduct.bd)))))))))))))) 2) impl_Coalgebra_coproduct.kp 2 2 m s (impl_Coalgebra_coproduct.k1g N L0 (impl_Coalgebra_coproduct.k0 N K gv1 gv2))) v0 gv1 gv2 rv3 x4 x6 gv7).trans ?_
    simp only [ih]
    kernel_rfl

theorem impl_Coalgebra_coproduct.l0_eq {ρ : Type} (N : Nat) (K : AV → Heap → Option ρ) (v0 : Nat → Int) (gv1 : Nat → Int) (gv2 : Nat → Int) (rv3 : Nat → Int) :
    ∀ (m : Nat) (x4 : Int) (gv5 : Nat → Int), xloop (xcode (E45 N) ents impl_Coalgebra_coproduct.kp 2 N (cL (cK (cB (cA (cB (cB impl_Coalgebra_coproduct.bd)))))) 0) impl_Coalgebra_coproduct.kp 2 0 m (impl_Coalgebra_coproduct.st0 v0 gv1 gv2 rv3 x4 gv5) (impl_Coalgebra_coproduct.k0 N K gv1 gv2) = (impl_Coalgebra_coproduct.l0 N (fun d0 => K (.agg [⟨.u8, 64, d0⟩]) [⟨false, .flat 2 (.ints .i64 gv1)⟩, ⟨false, .flat 520 (.ints .u8 gv2)⟩]) v0 gv2 rv3 (fun ov10 => (impl_Coalgebra_coproduct.k0 N K gv1 gv2) (.exit 0) (impl_Coalgebra_coproduct.sx0_0 gv1 gv2 ov10)) m x4 gv5) := by
  intro m
  induction m with
  | zero => intros; rfl
  | succ m ih =>
    intro x4 gv5
    refine (impl_Coalgebra_coproduct.b0_eq N K (fun s => xloop (xcode (E45 N) ents impl_Coalgebra_coproduct.kp 2 N (cL (cK (cB (cA (cB (cB impl_Coalgebra_coproduct.bd)))))) 0) impl_Coalgebra_coproduct.kp 2 0 m s (impl_Coalgebra_coproduct.k0 N K gv1 gv2)) v0 gv1 gv2 rv3 x4 gv5).trans ?_
    simp only [ih, impl_Coalgebra_coproduct.l1_eq, impl_Coalgebra_coproduct.a1_0_eq]
    kernel_rfl

theorem impl_Coalgebra_coproduct.s_eq {ρ : Type} (N : Nat) (K : AV → Heap → Option ρ) (v0 : Nat → Int) (gv1 : Nat → Int) (gv2 : Nat → Int) :
    xbody (E45 N) ents impl_Coalgebra_coproduct.kp N Go.Proofs.Try.f68 impl_Coalgebra_coproduct.bd [.sptr [(0, 2), (1, 520)], .agg [⟨.u8, 8, v0⟩]] [⟨false, .flat 2 (.ints .i64 gv1)⟩, ⟨false, .flat 520 (.ints .u8 gv2)⟩] K = (impl_Coalgebra_coproduct.s N (fun d0 => K (.agg [⟨.u8, 64, d0⟩]) [⟨false, .flat 2 (.ints .i64 gv1)⟩, ⟨false, .flat 520 (.ints .u8 gv2)⟩]) (fun rv3 x4 gv5 => xloop (xcode (E45 N) ents impl_Coalgebra_coproduct.kp 2 N (cL (cK (cB (cA (cB (cB impl_Coalgebra_coproduct.bd)))))) 0) impl_Coalgebra_coproduct.kp 2 0 N (impl_Coalgebra_coproduct.st0 v0 gv1 gv2 rv3 x4 gv5) (impl_Coalgebra_coproduct.k0 N K gv1 gv2)) gv1 gv2) := by kernel_rfl

theorem impl_Coalgebra_coproduct.eq {ρ : Type} (N : Nat) (K : AV → Heap → Option ρ) (v0 : Nat → Int) (gv1 : Nat → Int) (gv2 : Nat → Int) :
    xbody (E45 N) ents impl_Coalgebra_coproduct.kp N Go.Proofs.Try.f68 impl_Coalgebra_coproduct.bd [.sptr [(0, 2), (1, 520)], .agg [⟨.u8, 8, v0⟩]] [⟨false, .flat 2 (.ints .i64 gv1)⟩, ⟨false, .flat 520 (.ints .u8 gv2)⟩] K = (impl_Coalgebra_coproduct N (fun d0 => K (.agg [⟨.u8, 64, d0⟩]) [⟨false, .flat 2 (.ints .i64 gv1)⟩, ⟨false, .flat 520 (.ints .u8 gv2)⟩]) v0 gv1 gv2) := by
  refine (impl_Coalgebra_coproduct.s_eq N K v0 gv1 gv2).trans ?_
  simp only [impl_Coalgebra_coproduct.l0_eq, impl_Coalgebra_coproduct.a0_0_eq]
  kernel_rfl

noncomputable def impl_Coalgebra_coproduct.en (N : Nat) (ρ : Type) : List AV → Heap → (AV → Heap → Option ρ) → Option ρ
  | [.sptr [(0, 2), (1, 520)], .agg [⟨.u8, 8, v0⟩]], [⟨false, .flat 2 (.ints .i64 gv1)⟩, ⟨false, .flat 520 (.ints .u8 gv2)⟩], K => (impl_Coalgebra_coproduct N (fun d0 => K (.agg [⟨.u8, 64, d0⟩]) [⟨false, .flat 2 (.ints .i64 gv1)⟩, ⟨false, .flat 520 (.ints .u8 gv2)⟩]) v0 gv1 gv2)
  | _, _, _ => none

theorem impl_Coalgebra_coproduct.en_ok (N : Nat) (hE : EnvOk (E45 N) ents) (ρ : Type) (args : List AV) (sh : Heap) (K : AV → Heap → Option ρ) (r : ρ) (h : impl_Coalgebra_coproduct.en N ρ args sh K = some r) : ∃ v sh', K v sh' = some r ∧ FnOk (E45 N).P 68 args sh v sh' := by
  unfold impl_Coalgebra_coproduct.en at h
  split at h
  · exact fn_ok hE (kp := impl_Coalgebra_coproduct.kp) (N := N) Go.Proofs.Try.func68 (c := impl_Coalgebra_coproduct.bd) (by kernel_rfl) ((impl_Coalgebra_coproduct.eq N _ _ _ _).trans h)
  · cases h

noncomputable def E46 (N : Nat) : Env := (E45 N).add 68 (impl_Coalgebra_coproduct.en N)

theorem E46_ok (N : Nat) : EnvOk (E46 N) ents := Env.add_ok (E45_ok N) (impl_Coalgebra_coproduct.en_ok N (E45_ok N))

noncomputable def impl_field_times.kp : Keeps := ⟨[], [], []⟩

noncomputable def impl_field_times.bd : Code := bodyOf Go.Proofs.Try.f81

noncomputable def impl_field_times.fin {ρ : Type} (N : Nat) (K : AV → Heap → Option ρ) : XE → St → Option ρ := finK (E46 N) impl_field_times.kp.fins Go.Proofs.Try.f81 [] K

theorem impl_field_times.eq {ρ : Type} (N : Nat) (K : AV → Heap → Option ρ) (f0 : Nat → Int) (k1 : Int) (w2 : Nat → Int) :
    xbody (E46 N) ents impl_field_times.kp N Go.Proofs.Try.f81 impl_field_times.bd [.agg [⟨.i64, 2, f0⟩], .int .i64 (k1), .agg [⟨.u8, 8, w2⟩]] [] K = (impl_field_times N (fun d0 => K (.agg [⟨.u8, 8, d0⟩]) []) f0 k1 w2) := by kernel_rfl

noncomputable def impl_field_times.en (N : Nat) (ρ : Type) : List AV → Heap → (AV → Heap → Option ρ) → Option ρ
  | [.agg [⟨.i64, 2, f0⟩], .int .i64 (k1), .agg [⟨.u8, 8, w2⟩]], [], K => (impl_field_times N (fun d0 => K (.agg [⟨.u8, 8, d0⟩]) []) f0 k1 w2)
  | _, _, _ => none

theorem impl_field_times.en_ok (N : Nat) (hE : EnvOk (E46 N) ents) (ρ : Type) (args : List AV) (sh : Heap) (K : AV → Heap → Option ρ) (r : ρ) (h : impl_field_times.en N ρ args sh K = some r) : ∃ v sh', K v sh' = some r ∧ FnOk (E46 N).P 81 args sh v sh' := by
  unfold impl_field_times.en at h
  split at h
  · exact fn_ok hE (kp := impl_field_times.kp) (N := N) Go.Proofs.Try.func81 (c := impl_field_times.bd) (by kernel_rfl) ((impl_field_times.eq N _ _ _ _).trans h)
  · cases h

noncomputable def E47 (N : Nat) : Env := (E46 N).add 81 (impl_field_times.en N)

theorem E47_ok (N : Nat) : EnvOk (E47 N) ents := Env.add_ok (E46_ok N) (impl_field_times.en_ok N (E46_ok N))

noncomputable def impl_field_pair.kp : Keeps := ⟨[(0, [3, 5, 6, 7, 11, 12], [], [])], [(0, [6, 7], [], [])], []⟩

noncomputable def impl_field_pair.bd : Code := bodyOf Go.Proofs.Try.f106

noncomputable def impl_field_pair.fin {ρ : Type} (N : Nat) (K : AV → Heap → Option ρ) : XE → St → Option ρ := finK (E47 N) impl_field_pair.kp.fins Go.Proofs.Try.f106 [] K

noncomputable def impl_field_pair.k0 {ρ : Type} (N : Nat) (K : AV → Heap → Option ρ) : XE → St → Option ρ := (blockK impl_field_pair.kp 0 0 (seqK (xcode (E47 N) ents impl_field_pair.kp 0 N (cB (cB (cB impl_field_pair.bd))) 0) (impl_field_pair.fin N K)))

theorem impl_field_pair.k0_mix {ρ : Type} (N : Nat) (K : AV → Heap → Option ρ) : mixK (impl_field_pair.fin N K .ret) (impl_field_pair.k0 N K) = (impl_field_pair.k0 N K) := by
  funext e s; cases e <;> kernel_rfl

noncomputable def impl_field_pair.st0 (f0 : Nat → Int) (v1 : Nat → Int) (w2 : Nat → Int) (x3 : Int) (gv4 : Nat → Int) : St := ⟨sl 25 [(3, .sptr [(0, 2)]), (5, .sptr [(1, 8)]), (6, .sptr [(2, 64)]), (7, .sptr [(3, 64)]), (11, .agg [⟨.u8, 8, v1⟩]), (12, .int .i64 (x3))], [⟨true, .flat 2 (.ints .i64 f0)⟩, ⟨true, .flat 8 (.ints .u8 w2)⟩, ⟨true, .flat 64 (.ints .u8 (fun _ => 0))⟩, ⟨true, .flat 64 (.ints .u8 gv4)⟩]⟩

noncomputable def impl_field_pair.sx0_0 (ov6 : Nat → Int) : St := ⟨sl 25 [(6, .sptr [(0, 64)]), (7, .sptr [(1, 64)])], [⟨true, .flat 64 (.ints .u8 (fun _ => 0))⟩, ⟨true, .flat 64 (.ints .u8 ov6)⟩]⟩

theorem impl_field_pair.b0_gen {ρ : Type} (N : Nat) (K : AV → Heap → Option ρ) (L0 : St → Option ρ) (kv : XE → St → Option ρ) (f0 : Nat → Int) (v1 : Nat → Int) (w2 : Nat → Int) (x3 : Int) (gv4 : Nat → Int) :
    xcode (E47 N) ents impl_field_pair.kp 0 N (cL (cK (cB (cA (cB (cB impl_field_pair.bd)))))) 0 (impl_field_pair.st0 f0 v1 w2 x3 gv4) (roundK impl_field_pair.kp 0 0 L0 (mixK (impl_field_pair.fin N K .ret) kv)) = (impl_field_pair.b0 N (fun d0 => K (.agg [⟨.u8, 64, d0⟩]) []) (fun x3 gv4 => L0 (impl_field_pair.st0 f0 v1 w2 x3 gv4)) (fun ov6 => kv (.exit 0) (impl_field_pair.sx0_0 ov6)) f0 v1 w2 x3 gv4) := by kernel_rfl

theorem impl_field_pair.b0_eq {ρ : Type} (N : Nat) (K : AV → Heap → Option ρ) (L0 : St → Option ρ) (f0 : Nat → Int) (v1 : Nat → Int) (w2 : Nat → Int) (x3 : Int) (gv4 : Nat → Int) :
    xcode (E47 N) ents impl_field_pair.kp 0 N (cL (cK (cB (cA (cB (cB impl_field_pair.bd)))))) 0 (impl_field_pair.st0 f0 v1 w2 x3 gv4) (roundK impl_field_pair.kp 0 0 L0 (impl_field_pair.k0 N K)) = (impl_field_pair.b0 N (fun d0 => K (.agg [⟨.u8, 64, d0⟩]) []) (fun x3 gv4 => L0 (impl_field_pair.st0 f0 v1 w2 x3 gv4)) (fun ov6 => (impl_field_pair.k0 N K) (.exit 0) (impl_field_pair.sx0_0 ov6)) f0 v1 w2 x3 gv4) := by
  have h := impl_field_pair.b0_gen N K L0 (impl_field_pair.k0 N K) f0 v1 w2 x3 gv4
  rw [impl_field_pair.k0_mix] at h
  exact h

theorem impl_field_pair.a0_0_eq {ρ : Type} (N : Nat) (K : AV → Heap → Option ρ) (ov6 : Nat → Int) :
    (impl_field_pair.k0 N K) (.exit 0) (impl_field_pair.sx0_0 ov6) = (impl_field_pair.a0_0 N (fun d0 => K (.agg [⟨.u8, 64, d0⟩]) []) ov6) := by kernel_rfl

theorem impl_field_pair.l0_eq {ρ : Type} (N : Nat) (K : AV → Heap → Option ρ) (f0 : Nat → Int) (v1 : Nat → Int) (w2 : Nat → Int) :
    ∀ (m : Nat) (x3 : Int) (gv4 : Nat → Int), xloop (xcode (E47 N) ents impl_field_pair.kp 0 N (cL (cK (cB (cA (cB (cB impl_field_pair.bd)))))) 0) impl_field_pair.kp 0 0 m (impl_field_pair.st0 f0 v1 w2 x3 gv4) (impl_field_pair.k0 N K) = (impl_field_pair.l0 N (fun d0 => K (.agg [⟨.u8, 64, d0⟩]) []) f0 v1 w2 (fun ov6 => (impl_field_pair.k0 N K) (.exit 0) (impl_field_pair.sx0_0 ov6)) m x3 gv4) := by
  intro m
  induction m with
  | zero => intros; rfl
  | succ m ih =>
    intro x3 gv4
    refine (impl_field_pair.b0_eq N K (fun s => xloop (xcode (E47 N) ents impl_field_pair.kp 0 N (cL (cK (cB (cA (cB (cB impl_field_pair.bd)))))) 0) impl_field_pair.kp 0 0 m s (impl_field_pair.k0 N K)) f0 v1 w2 x3 gv4).trans ?_
    simp only [ih]
    kernel_rfl

theorem impl_field_pair.s_eq {ρ : Type} (N : Nat) (K : AV → Heap → Option ρ) (f0 : Nat → Int) (v1 : Nat → Int) (w2 : Nat → Int) :
    xbody (E47 N) ents impl_field_pair.kp N Go.Proofs.Try.f106 impl_field_pair.bd [.agg [⟨.i64, 2, f0⟩], .agg [⟨.u8, 8, v1⟩], .agg [⟨.u8, 8, w2⟩]] [] K = (impl_field_pair.s N (fun d0 => K (.agg [⟨.u8, 64, d0⟩]) []) (fun x3 gv4 => xloop (xcode (E47 N) ents impl_field_pair.kp 0 N (cL (cK (cB (cA (cB (cB impl_field_pair.bd)))))) 0) impl_field_pair.kp 0 0 N (impl_field_pair.st0 f0 v1 w2 x3 gv4) (impl_field_pair.k0 N K))) := by kernel_rfl

theorem impl_field_pair.eq {ρ : Type} (N : Nat) (K : AV → Heap → Option ρ) (f0 : Nat → Int) (v1 : Nat → Int) (w2 : Nat → Int) :
    xbody (E47 N) ents impl_field_pair.kp N Go.Proofs.Try.f106 impl_field_pair.bd [.agg [⟨.i64, 2, f0⟩], .agg [⟨.u8, 8, v1⟩], .agg [⟨.u8, 8, w2⟩]] [] K = (impl_field_pair N (fun d0 => K (.agg [⟨.u8, 64, d0⟩]) []) f0 v1 w2) := by
  refine (impl_field_pair.s_eq N K f0 v1 w2).trans ?_
  simp only [impl_field_pair.l0_eq, impl_field_pair.a0_0_eq]
  kernel_rfl

noncomputable def impl_field_pair.en (N : Nat) (ρ : Type) : List AV → Heap → (AV → Heap → Option ρ) → Option ρ
  | [.agg [⟨.i64, 2, f0⟩], .agg [⟨.u8, 8, v1⟩], .agg [⟨.u8, 8, w2⟩]], [], K => (impl_field_pair N (fun d0 => K (.agg [⟨.u8, 64, d0⟩]) []) f0 v1 w2)
  | _, _, _ => none

theorem impl_field_pair.en_ok (N : Nat) (hE : EnvOk (E47 N) ents) (ρ : Type) (args : List AV) (sh : Heap) (K : AV → Heap → Option ρ) (r : ρ) (h : impl_field_pair.en N ρ args sh K = some r) : ∃ v sh', K v sh' = some r ∧ FnOk (E47 N).P 106 args sh v sh' := by
  unfold impl_field_pair.en at h
  split at h
  · exact fn_ok hE (kp := impl_field_pair.kp) (N := N) Go.Proofs.Try.func106 (c := impl_field_pair.bd) (by kernel_rfl) ((impl_field_pair.eq N _ _ _ _).trans h)
  · cases h

noncomputable def E48 (N : Nat) : Env := (E47 N).add 106 (impl_field_pair.en N)

theorem E48_ok (N : Nat) : EnvOk (E48 N) ents := Env.add_ok (E47_ok N) (impl_field_pair.en_ok N (E47_ok N))

noncomputable def impl_Coalgebra_isGroupLike.kp : Keeps := ⟨[], [], []⟩

noncomputable def impl_Coalgebra_isGroupLike.bd : Code := bodyOf Go.Proofs.Try.f74

noncomputable def impl_Coalgebra_isGroupLike.fin {ρ : Type} (N : Nat) (K : AV → Heap → Option ρ) (gv1 : Nat → Int) (gv2 : Nat → Int) : XE → St → Option ρ := finK (E48 N) impl_Coalgebra_isGroupLike.kp.fins Go.Proofs.Try.f74 [⟨false, .flat 2 (.ints .i64 gv1)⟩, ⟨false, .flat 520 (.ints .u8 gv2)⟩] K

theorem impl_Coalgebra_isGroupLike.eq {ρ : Type} (N : Nat) (K : AV → Heap → Option ρ) (v0 : Nat → Int) (gv1 : Nat → Int) (gv2 : Nat → Int) :
    xbody (E48 N) ents impl_Coalgebra_isGroupLike.kp N Go.Proofs.Try.f74 impl_Coalgebra_isGroupLike.bd [.sptr [(0, 2), (1, 520)], .agg [⟨.u8, 8, v0⟩]] [⟨false, .flat 2 (.ints .i64 gv1)⟩, ⟨false, .flat 520 (.ints .u8 gv2)⟩] K = (impl_Coalgebra_isGroupLike N (fun d0 => K (.bool (d0)) [⟨false, .flat 2 (.ints .i64 gv1)⟩, ⟨false, .flat 520 (.ints .u8 gv2)⟩]) v0 gv1 gv2) := by kernel_rfl

noncomputable def impl_Coalgebra_isGroupLike.en (N : Nat) (ρ : Type) : List AV → Heap → (AV → Heap → Option ρ) → Option ρ
  | [.sptr [(0, 2), (1, 520)], .agg [⟨.u8, 8, v0⟩]], [⟨false, .flat 2 (.ints .i64 gv1)⟩, ⟨false, .flat 520 (.ints .u8 gv2)⟩], K => (impl_Coalgebra_isGroupLike N (fun d0 => K (.bool (d0)) [⟨false, .flat 2 (.ints .i64 gv1)⟩, ⟨false, .flat 520 (.ints .u8 gv2)⟩]) v0 gv1 gv2)
  | _, _, _ => none

theorem impl_Coalgebra_isGroupLike.en_ok (N : Nat) (hE : EnvOk (E48 N) ents) (ρ : Type) (args : List AV) (sh : Heap) (K : AV → Heap → Option ρ) (r : ρ) (h : impl_Coalgebra_isGroupLike.en N ρ args sh K = some r) : ∃ v sh', K v sh' = some r ∧ FnOk (E48 N).P 74 args sh v sh' := by
  unfold impl_Coalgebra_isGroupLike.en at h
  split at h
  · exact fn_ok hE (kp := impl_Coalgebra_isGroupLike.kp) (N := N) Go.Proofs.Try.func74 (c := impl_Coalgebra_isGroupLike.bd) (by kernel_rfl) ((impl_Coalgebra_isGroupLike.eq N _ _ _ _).trans h)
  · cases h

noncomputable def E49 (N : Nat) : Env := (E48 N).add 74 (impl_Coalgebra_isGroupLike.en N)

theorem E49_ok (N : Nat) : EnvOk (E49 N) ents := Env.add_ok (E48_ok N) (impl_Coalgebra_isGroupLike.en_ok N (E48_ok N))

noncomputable def impl_GroupLikes.kp : Keeps := ⟨[(0, [1, 5, 6, 18, 19], [], []), (2, [1, 5, 7, 29, 30], [], []), (4, [1, 5, 7, 9, 10, 11, 29, 30], [], [])], [(0, [1, 5, 6], [], []), (2, [7], [], []), (4, [1, 5, 7, 9, 29, 30], [], [])], [(.slot 2, .unk (.ints .u8 (fun _ => 0)) 8)]⟩

noncomputable def impl_GroupLikes.bd : Code := bodyOf Go.Proofs.Try.f37

noncomputable def impl_GroupLikes.fin {ρ : Type} (N : Nat) (K : AV → Heap → Option ρ) : XE → St → Option ρ := finK (E49 N) impl_GroupLikes.kp.fins Go.Proofs.Try.f37 [] K

noncomputable def impl_GroupLikes.k0 {ρ : Type} (N : Nat) (K : AV → Heap → Option ρ) : XE → St → Option ρ := (blockK impl_GroupLikes.kp 0 0 (seqK (xcode (E49 N) ents impl_GroupLikes.kp 0 N (cB (cB (cB (cB impl_GroupLikes.bd)))) 0) (impl_GroupLikes.fin N K)))

theorem impl_GroupLikes.k0_mix {ρ : Type} (N : Nat) (K : AV → Heap → Option ρ) : mixK (impl_GroupLikes.fin N K .ret) (impl_GroupLikes.k0 N K) = (impl_GroupLikes.k0 N K) := by
  funext e s; cases e <;> kernel_rfl

noncomputable def impl_GroupLikes.st0 (c0 : Nat → Int) (c1 : Nat → Int) (rv3 : Nat → Int) (many4 : Int) (x5 : Int) : St := ⟨sl 61 [(1, .sptr [(0, 2), (1, 520)]), (5, .sptr [(2, 2)]), (6, .int .i64 (many4)), (18, .int .i64 ((rv3 1))), (19, .int .i64 (x5))], [⟨true, .flat 2 (.ints .i64 c0)⟩, ⟨true, .flat 520 (.ints .u8 c1)⟩, ⟨true, .flat 2 (.ints .i64 rv3)⟩]⟩

noncomputable def impl_GroupLikes.sx0_0 (c0 : Nat → Int) (c1 : Nat → Int) (rv3 : Nat → Int) (ov6 : Int) : St := ⟨sl 61 [(1, .sptr [(0, 2), (1, 520)]), (5, .sptr [(2, 2)]), (6, .int .i64 (ov6))], [⟨true, .flat 2 (.ints .i64 c0)⟩, ⟨true, .flat 520 (.ints .u8 c1)⟩, ⟨true, .flat 2 (.ints .i64 rv3)⟩]⟩

noncomputable def impl_GroupLikes.k1 {ρ : Type} (N : Nat) (K : AV → Heap → Option ρ) : XE → St → Option ρ := (blockK impl_GroupLikes.kp 0 2 (seqK (xcode (E49 N) ents impl_GroupLikes.kp 0 N (cB (cB (cB (cB (cB (cB impl_GroupLikes.bd)))))) 0) (impl_GroupLikes.fin N K)))

theorem impl_GroupLikes.k1_mix {ρ : Type} (N : Nat) (K : AV → Heap → Option ρ) : mixK (impl_GroupLikes.fin N K .ret) (impl_GroupLikes.k1 N K) = (impl_GroupLikes.k1 N K) := by
  funext e s; cases e <;> kernel_rfl

noncomputable def impl_GroupLikes.st1 (c0 : Nat → Int) (c1 : Nat → Int) (rv3 : Nat → Int) (ov6 : Int) (outv7 : Nat) (x8 : Int) (gv9 : Nat → Int) : St := ⟨sl 61 [(1, .sptr [(0, 2), (1, 520)]), (5, .sptr [(2, 2)]), (7, .slice true 3 0 outv7 .whole 8), (29, .int .i64 (ov6)), (30, .int .i64 (x8))], [⟨true, .flat 2 (.ints .i64 c0)⟩, ⟨true, .flat 520 (.ints .u8 c1)⟩, ⟨true, .flat 2 (.ints .i64 rv3)⟩, ⟨true, .flat 0 (.ints .u8 gv9)⟩]⟩

noncomputable def impl_GroupLikes.sx1_0 (ov15 : Nat) (ov16 : Nat → Int) : St := ⟨sl 61 [(7, .slice true 0 0 ov15 .whole 8)], [⟨true, .flat 0 (.ints .u8 ov16)⟩]⟩

noncomputable def impl_GroupLikes.k2g {ρ : Type} (N : Nat) (L1 : St → Option ρ) (kv : XE → St → Option ρ) : XE → St → Option ρ := (blockK impl_GroupLikes.kp 0 4 (seqK (xcode (E49 N) ents impl_GroupLikes.kp 0 N (cB (cB (cB (cK (cA (cB (cB (cL (cK (cB (cA (cB (cB (cB (cB (cB impl_GroupLikes.bd)))))))))))))))) 3) (blockK impl_GroupLikes.kp 0 3 (seqK (xcode (E49 N) ents impl_GroupLikes.kp 0 N (cB (cB (cB (cL (cK (cB (cA (cB (cB (cB (cB (cB impl_GroupLikes.bd)))))))))))) 2) (roundK impl_GroupLikes.kp 0 2 L1 kv)))))

theorem impl_GroupLikes.k2_mix {ρ : Type} (N : Nat) (K : AV → Heap → Option ρ) (L1 : St → Option ρ) : mixK (impl_GroupLikes.fin N K .ret) (impl_GroupLikes.k2g N L1 (impl_GroupLikes.k1 N K)) = (impl_GroupLikes.k2g N L1 (impl_GroupLikes.k1 N K)) := by
  funext e s; cases e <;> kernel_rfl

noncomputable def impl_GroupLikes.st2 (c0 : Nat → Int) (c1 : Nat → Int) (rv3 : Nat → Int) (ov6 : Int) (outv7 : Nat) (x8 : Int) (gv9 : Nat → Int) (left10 : Int) (i11 : Int) (gv12 : Nat → Int) : St := ⟨sl 61 [(1, .sptr [(0, 2), (1, 520)]), (5, .sptr [(2, 2)]), (7, .slice true 3 0 outv7 .whole 8), (9, .sptr [(4, 8)]), (10, .int .i64 (left10)), (11, .int .i64 (i11)), (29, .int .i64 (ov6)), (30, .int .i64 (x8))], [⟨true, .flat 2 (.ints .i64 c0)⟩, ⟨true, .flat 520 (.ints .u8 c1)⟩, ⟨true, .flat 2 (.ints .i64 rv3)⟩, ⟨true, .flat 0 (.ints .u8 gv9)⟩, ⟨true, .flat 8 (.ints .u8 gv12)⟩]⟩

noncomputable def impl_GroupLikes.sx2_0 (c0 : Nat → Int) (c1 : Nat → Int) (rv3 : Nat → Int) (ov6 : Int) (outv7 : Nat) (x8 : Int) (gv9 : Nat → Int) (ov13 : Nat → Int) : St := ⟨sl 61 [(1, .sptr [(0, 2), (1, 520)]), (5, .sptr [(2, 2)]), (7, .slice true 3 0 outv7 .whole 8), (9, .sptr [(4, 8)]), (29, .int .i64 (ov6)), (30, .int .i64 (x8))], [⟨true, .flat 2 (.ints .i64 c0)⟩, ⟨true, .flat 520 (.ints .u8 c1)⟩, ⟨true, .flat 2 (.ints .i64 rv3)⟩, ⟨true, .flat 0 (.ints .u8 gv9)⟩, ⟨true, .flat 8 (.ints .u8 ov13)⟩]⟩

theorem impl_GroupLikes.b2_gen {ρ : Type} (N : Nat) (K : AV → Heap → Option ρ) (L2 : St → Option ρ) (kv : XE → St → Option ρ) (c0 : Nat → Int) (c1 : Nat → Int) (rv3 : Nat → Int) (ov6 : Int) (outv7 : Nat) (x8 : Int) (gv9 : Nat → Int) (left10 : Int) (i11 : Int) (gv12 : Nat → Int) :
    xcode (E49 N) ents impl_GroupLikes.kp 0 N (cL (cK (cB (cA (cB (cB (cK (cA (cB (cB (cL (cK (cB (cA (cB (cB (cB (cB (cB impl_GroupLikes.bd))))))))))))))))))) 4 (impl_GroupLikes.st2 c0 c1 rv3 ov6 outv7 x8 gv9 left10 i11 gv12) (roundK impl_GroupLikes.kp 0 4 L2 (mixK (impl_GroupLikes.fin N K .ret) kv)) = (impl_GroupLikes.b2 N (fun d0 d1 d2 => K (.tup [.slice false 0 0 d0 .unk 8, .int .i64 (d1)]) [⟨true, .flat 0 (.ints .u8 d2)⟩]) (fun left10 i11 gv12 => L2 (impl_GroupLikes.st2 c0 c1 rv3 ov6 outv7 x8 gv9 left10 i11 gv12)) (fun ov13 => kv (.exit 4) (impl_GroupLikes.sx2_0 c0 c1 rv3 ov6 outv7 x8 gv9 ov13)) rv3 left10 i11 gv12) := by kernel_rfl

theorem impl_GroupLikes.b2_eq {ρ : Type} (N : Nat) (K : AV → Heap → Option ρ) (L1 : St → Option ρ) (L2 : St → Option ρ) (c0 : Nat → Int) (c1 : Nat → Int) (rv3 : Nat → Int) (ov6 : Int) (outv7 : Nat) (x8 : Int) (gv9 : Nat → Int) (left10 : Int) (i11 : Int) (gv12 : Nat → Int) :
    xcode (E49 N) ents impl_GroupLikes.kp 0 N (cL (cK (cB (cA (cB (cB (cK (cA (cB (cB (cL (cK (cB (cA (cB (cB (cB (cB (cB impl_GroupLikes.bd))))))))))))))))))) 4 (impl_GroupLikes.st2 c0 c1 rv3 ov6 outv7 x8 gv9 left10 i11 gv12) (roundK impl_GroupLikes.kp 0 4 L2 (impl_GroupLikes.k2g N L1 (impl_GroupLikes.k1 N K))) = (impl_GroupLikes.b2 N (fun d0 d1 d2 => K (.tup [.slice false 0 0 d0 .unk 8, .int .i64 (d1)]) [⟨true, .flat 0 (.ints .u8 d2)⟩]) (fun left10 i11 gv12 => L2 (impl_GroupLikes.st2 c0 c1 rv3 ov6 outv7 x8 gv9 left10 i11 gv12)) (fun ov13 => (impl_GroupLikes.k2g N L1 (impl_GroupLikes.k1 N K)) (.exit 4) (impl_GroupLikes.sx2_0 c0 c1 rv3 ov6 outv7 x8 gv9 ov13)) rv3 left10 i11 gv12) := by
  have h := impl_GroupLikes.b2_gen N K L2 (impl_GroupLikes.k2g N L1 (impl_GroupLikes.k1 N K)) c0 c1 rv3 ov6 outv7 x8 gv9 left10 i11 gv12
  rw [impl_GroupLikes.k2_mix] at h
  exact h

theorem impl_GroupLikes.a2_0_gen {ρ : Type} (N : Nat) (K : AV → Heap → Option ρ) (L1 : St → Option ρ) (kv : XE → St → Option ρ) (c0 : Nat → Int) (c1 : Nat → Int) (rv3 : Nat → Int) (ov6 : Int) (outv7 : Nat) (x8 : Int) (gv9 : Nat → Int) (ov13 : Nat → Int) :
    (impl_GroupLikes.k2g N L1 (mixK (impl_GroupLikes.fin N K .ret) kv)) (.exit 4) (impl_GroupLikes.sx2_0 c0 c1 rv3 ov6 outv7 x8 gv9 ov13) = (impl_GroupLikes.a2_0 N (fun d0 d1 d2 => K (.tup [.slice false 0 0 d0 .unk 8, .int .i64 (d1)]) [⟨true, .flat 0 (.ints .u8 d2)⟩]) (fun outv7 x8 gv9 => L1 (impl_GroupLikes.st1 c0 c1 rv3 ov6 outv7 x8 gv9)) (fun ov15 ov16 => kv (.exit 2) (impl_GroupLikes.sx1_0 ov15 ov16)) c0 c1 outv7 x8 gv9 ov13) := by kernel_rfl

theorem impl_GroupLikes.a2_0_eq {ρ : Type} (N : Nat) (K : AV → Heap → Option ρ) (L1 : St → Option ρ) (c0 : Nat → Int) (c1 : Nat → Int) (rv3 : Nat → Int) (ov6 : Int) (outv7 : Nat) (x8 : Int) (gv9 : Nat → Int) (ov13 : Nat → Int) :
    (impl_GroupLikes.k2g N L1 (impl_GroupLikes.k1 N K)) (.exit 4) (impl_GroupLikes.sx2_0 c0 c1 rv3 ov6 outv7 x8 gv9 ov13) = (impl_GroupLikes.a2_0 N (fun d0 d1 d2 => K (.tup [.slice false 0 0 d0 .unk 8, .int .i64 (d1)]) [⟨true, .flat 0 (.ints .u8 d2)⟩]) (fun outv7 x8 gv9 => L1 (impl_GroupLikes.st1 c0 c1 rv3 ov6 outv7 x8 gv9)) (fun ov15 ov16 => (impl_GroupLikes.k1 N K) (.exit 2) (impl_GroupLikes.sx1_0 ov15 ov16)) c0 c1 outv7 x8 gv9 ov13) := by
  have h := impl_GroupLikes.a2_0_gen N K L1 (impl_GroupLikes.k1 N K) c0 c1 rv3 ov6 outv7 x8 gv9 ov13
  rw [impl_GroupLikes.k1_mix] at h
  exact h

theorem impl_GroupLikes.b1_gen {ρ : Type} (N : Nat) (K : AV → Heap → Option ρ) (L1 : St → Option ρ) (kv : XE → St → Option ρ) (c0 : Nat → Int) (c1 : Nat → Int) (rv3 : Nat → Int) (ov6 : Int) (outv7 : Nat) (x8 : Int) (gv9 : Nat → Int) :
    xcode (E49 N) ents impl_GroupLikes.kp 0 N (cL (cK (cB (cA (cB (cB (cB (cB (cB impl_GroupLikes.bd))))))))) 2 (impl_GroupLikes.st1 c0 c1 rv3 ov6 outv7 x8 gv9) (roundK impl_GroupLikes.kp 0 2 L1 (mixK (impl_GroupLikes.fin N K .ret) kv)) = (impl_GroupLikes.b1 N (fun d0 d1 d2 => K (.tup [.slice false 0 0 d0 .unk 8, .int .i64 (d1)]) [⟨true, .flat 0 (.ints .u8 d2)⟩]) (fun left10 i11 gv12 => xloop (xcode (E49 N) ents impl_GroupLikes.kp 0 N (cL (cK (cB (cA (cB (cB (cK (cA (cB (cB (cL (cK (cB (cA (cB (cB (cB (cB (cB impl_GroupLikes.bd))))))))))))))))))) 4) impl_GroupLikes.kp 0 4 N (impl_GroupLikes.st2 c0 c1 rv3 ov6 outv7 x8 gv9 left10 i11 gv12) (impl_GroupLikes.k2g N L1 (mixK (impl_GroupLikes.fin N K .ret) kv))) (fun outv7 x8 gv9 => L1 (impl_GroupLikes.st1 c0 c1 rv3 ov6 outv7 x8 gv9)) (fun ov15 ov16 => kv (.exit 2) (impl_GroupLikes.sx1_0 ov15 ov16)) rv3 ov6 outv7 x8 gv9) := by kernel_rfl

theorem impl_GroupLikes.b1_eq {ρ : Type} (N : Nat) (K : AV → Heap → Option ρ) (L1 : St → Option ρ) (c0 : Nat → Int) (c1 : Nat → Int) (rv3 : Nat → Int) (ov6 : Int) (outv7 : Nat) (x8 : Int) (gv9 : Nat → Int) :
    xcode (E49 N) ents impl_GroupLikes.kp 0 N (cL (cK (cB (cA (cB (cB (cB (cB (cB impl_GroupLikes.bd))))))))) 2 (impl_GroupLikes.st1 c0 c1 rv3 ov6 outv7 x8 gv9) (roundK impl_GroupLikes.kp 0 2 L1 (impl_GroupLikes.k1 N K)) = (impl_GroupLikes.b1 N (fun d0 d1 d2 => K (.tup [.slice false 0 0 d0 .unk 8, .int .i64 (d1)]) [⟨true, .flat 0 (.ints .u8 d2)⟩]) (fun left10 i11 gv12 => xloop (xcode (E49 N) ents impl_GroupLikes.kp 0 N (cL (cK (cB (cA (cB (cB (cK (cA (cB (cB (cL (cK (cB (cA (cB (cB (cB (cB (cB impl_GroupLikes.bd))))))))))))))))))) 4) impl_GroupLikes.kp 0 4 N (impl_GroupLikes.st2 c0 c1 rv3 ov6 outv7 x8 gv9 left10 i11 gv12) (impl_GroupLikes.k2g N L1 (impl_GroupLikes.k1 N K))) (fun outv7 x8 gv9 => L1 (impl_GroupLikes.st1 c0 c1 rv3 ov6 outv7 x8 gv9)) (fun ov15 ov16 => (impl_GroupLikes.k1 N K) (.exit 2) (impl_GroupLikes.sx1_0 ov15 ov16)) rv3 ov6 outv7 x8 gv9) := by
  have h := impl_GroupLikes.b1_gen N K L1 (impl_GroupLikes.k1 N K) c0 c1 rv3 ov6 outv7 x8 gv9
  rw [impl_GroupLikes.k1_mix] at h
  exact h

theorem impl_GroupLikes.a1_0_eq {ρ : Type} (N : Nat) (K : AV → Heap → Option ρ) (ov15 : Nat) (ov16 : Nat → Int) :
    (impl_GroupLikes.k1 N K) (.exit 2) (impl_GroupLikes.sx1_0 ov15 ov16) = (impl_GroupLikes.a1_0 N (fun d0 d1 d2 => K (.tup [.slice false 0 0 d0 .unk 8, .int .i64 (d1)]) [⟨true, .flat 0 (.ints .u8 d2)⟩]) ov15 ov16) := by kernel_rfl

theorem impl_GroupLikes.b0_gen {ρ : Type} (N : Nat) (K : AV → Heap → Option ρ) (L0 : St → Option ρ) (kv : XE → St → Option ρ) (c0 : Nat → Int) (c1 : Nat → Int) (rv3 : Nat → Int) (many4 : Int) (x5 : Int) :
    xcode (E49 N) ents impl_GroupLikes.kp 0 N (cL (cK (cB (cA (cB (cB (cB impl_GroupLikes.bd))))))) 0 (impl_GroupLikes.st0 c0 c1 rv3 many4 x5) (roundK impl_GroupLikes.kp 0 0 L0 (mixK (impl_GroupLikes.fin N K .ret) kv)) = (impl_GroupLikes.b0 N (fun d0 d1 d2 => K (.tup [.slice false 0 0 d0 .unk 8, .int .i64 (d1)]) [⟨true, .flat 0 (.ints .u8 d2)⟩]) (fun many4 x5 => L0 (impl_GroupLikes.st0 c0 c1 rv3 many4 x5)) (fun ov6 => kv (.exit 0) (impl_GroupLikes.sx0_0 c0 c1 rv3 ov6)) rv3 many4 x5) := by kernel_rfl

theorem impl_GroupLikes.b0_eq {ρ : Type} (N : Nat) (K : AV → Heap → Option ρ) (L0 : St → Option ρ) (c0 : Nat → Int) (c1 : Nat → Int) (rv3 : Nat → Int) (many4 : Int) (x5 : Int) :
    xcode (E49 N) ents impl_GroupLikes.kp 0 N (cL (cK (cB (cA (cB (cB (cB impl_GroupLikes.bd))))))) 0 (impl_GroupLikes.st0 c0 c1 rv3 many4 x5) (roundK impl_GroupLikes.kp 0 0 L0 (impl_GroupLikes.k0 N K)) = (impl_GroupLikes.b0 N (fun d0 d1 d2 => K (.tup [.slice false 0 0 d0 .unk 8, .int .i64 (d1)]) [⟨true, .flat 0 (.ints .u8 d2)⟩]) (fun many4 x5 => L0 (impl_GroupLikes.st0 c0 c1 rv3 many4 x5)) (fun ov6 => (impl_GroupLikes.k0 N K) (.exit 0) (impl_GroupLikes.sx0_0 c0 c1 rv3 ov6)) rv3 many4 x5) := by
  have h := impl_GroupLikes.b0_gen N K L0 (impl_GroupLikes.k0 N K) c0 c1 rv3 many4 x5
  rw [impl_GroupLikes.k0_mix] at h
  exact h

theorem impl_GroupLikes.a0_0_eq {ρ : Type} (N : Nat) (K : AV → Heap → Option ρ) (c0 : Nat → Int) (c1 : Nat → Int) (rv3 : Nat → Int) (ov6 : Int) :
    (impl_GroupLikes.k0 N K) (.exit 0) (impl_GroupLikes.sx0_0 c0 c1 rv3 ov6) = (impl_GroupLikes.a0_0 N (fun d0 d1 d2 => K (.tup [.slice false 0 0 d0 .unk 8, .int .i64 (d1)]) [⟨true, .flat 0 (.ints .u8 d2)⟩]) (fun outv7 x8 gv9 => xloop (xcode (E49 N) ents impl_GroupLikes.kp 0 N (cL (cK (cB (cA (cB (cB (cB (cB (cB impl_GroupLikes.bd))))))))) 2) impl_GroupLikes.kp 0 2 N (impl_GroupLikes.st1 c0 c1 rv3 ov6 outv7 x8 gv9) (impl_GroupLikes.k1 N K))) := by kernel_rfl

theorem impl_GroupLikes.l2_eq {ρ : Type} (N : Nat) (K : AV → Heap → Option ρ) (L1 : St → Option ρ) (c0 : Nat → Int) (c1 : Nat → Int) (rv3 : Nat → Int) (ov6 : Int) (outv7 : Nat) (x8 : Int) (gv9 : Nat → Int) :
    ∀ (m : Nat) (left10 : Int) (i11 : Int) (gv12 : Nat → Int), xloop (xcode (E49 N) ents impl_GroupLikes.kp 0 N (cL (cK (cB (cA (cB (cB (cK (cA (cB (cB (cL (cK (cB (cA (cB (cB (cB (cB (cB impl_GroupLikes.bd))))))))))))))))))) 4) impl_GroupLikes.kp 0 4 m (impl_GroupLikes.st2 c0 c1 rv3 ov6 outv7 x8 gv9 left10 i11 gv12) (impl_GroupLikes.k2g N L1 (impl_GroupLikes.k1 N K)) = (impl_GroupLikes.l2 N (fun d0 d1 d2 => K (.tup [.slice false 0 0 d0 .unk 8, .int .i64 (d1)]) [⟨true, .flat 0 (.ints .u8 d2)⟩]) rv3 (fun ov13 => (impl_GroupLikes.k2g N L1 (impl_GroupLikes.k1 N K)) (.exit 4) (impl_GroupLikes.sx2_0 c0 c1 rv3 ov6 outv7 x8 gv9 ov13)) m left10 i11 gv12) := by
  intro m
  induction m with
  | zero => intros; rfl
  | succ m ih =>
    intro left10 i11 gv12
    refine (impl_GroupLikes.b2_eq N K L1 (fun s => xloop (xcode (E49 N) ents impl_GroupLikes.kp 0 N (cL (cK (cB (cA (cB (cB (cK (cA (cB (cB (cL (cK (cB (cA (cB (cB (cB (cB (cB impl_GroupLikes.bd))))))))))))))))))) 4) impl_GroupLikes.kp 0 4 m s (impl_GroupLikes.k2g N L1 (impl_GroupLikes.k1 N K))) c0 c1 rv3 ov6 outv7 x8 gv9 left10 i11 gv12).trans ?_
    simp only [ih]
    kernel_rfl

theorem impl_GroupLikes.l1_eq {ρ : Type} (N : Nat) (K : AV → Heap → Option ρ) (c0 : Nat → Int) (c1 : Nat → Int) (rv3 : Nat → Int) (ov6 : Int) :
    ∀ (m : Nat) (outv7 : Nat) (x8 : Int) (gv9 : Nat → Int), xloop (xcode (E49 N) ents impl_GroupLikes.kp 0 N (cL (cK (cB (cA (cB (cB (cB (cB (cB impl_GroupLikes.bd))))))))) 2) impl_GroupLikes.kp 0 2 m (impl_GroupLikes.st1 c0 c1 rv3 ov6 outv7 x8 gv9) (impl_GroupLikes.k1 N K) = (impl_GroupLikes.l1 N (fun d0 d1 d2 => K (.tup [.slice false 0 0 d0 .unk 8, .int .i64 (d1)]) [⟨true, .flat 0 (.ints .u8 d2)⟩]) c0 c1 rv3 ov6 (fun ov15 ov16 => (impl_GroupLikes.k1 N K) (.exit 2) (impl_GroupLikes.sx1_0 ov15 ov16)) m outv7 x8 gv9) := by
  intro m
  induction m with
  | zero => intros; rfl
  | succ m ih =>
    intro outv7 x8 gv9
    refine (impl_GroupLikes.b1_eq N K (fun s => xloop (xcode (E49 N) ents impl_GroupLikes.kp 0 N (cL (cK (cB (cA (cB (cB (cB (cB (cB impl_GroupLikes.bd))))))))) 2) impl_GroupLikes.kp 0 2 m s (impl_GroupLikes.k1 N K)) c0 c1 rv3 ov6 outv7 x8 gv9).trans ?_
    simp only [ih, impl_GroupLikes.l2_eq, impl_GroupLikes.a2_0_eq]
    kernel_rfl

theorem impl_GroupLikes.l0_eq {ρ : Type} (N : Nat) (K : AV → Heap → Option ρ) (c0 : Nat → Int) (c1 : Nat → Int) (rv3 : Nat → Int) :
    ∀ (m : Nat) (many4 : Int) (x5 : Int), xloop (xcode (E49 N) ents impl_GroupLikes.kp 0 N (cL (cK (cB (cA (cB (cB (cB impl_GroupLikes.bd))))))) 0) impl_GroupLikes.kp 0 0 m (impl_GroupLikes.st0 c0 c1 rv3 many4 x5) (impl_GroupLikes.k0 N K) = (impl_GroupLikes.l0 N (fun d0 d1 d2 => K (.tup [.slice false 0 0 d0 .unk 8, .int .i64 (d1)]) [⟨true, .flat 0 (.ints .u8 d2)⟩]) rv3 (fun ov6 => (impl_GroupLikes.k0 N K) (.exit 0) (impl_GroupLikes.sx0_0 c0 c1 rv3 ov6)) m many4 x5) := by
  intro m
  induction m with
  | zero => intros; rfl
  | succ m ih =>
    intro many4 x5
    refine (impl_GroupLikes.b0_eq N K (fun s => xloop (xcode (E49 N) ents impl_GroupLikes.kp 0 N (cL (cK (cB (cA (cB (cB (cB impl_GroupLikes.bd))))))) 0) impl_GroupLikes.kp 0 0 m s (impl_GroupLikes.k0 N K)) c0 c1 rv3 many4 x5).trans ?_
    simp only [ih]
    kernel_rfl

theorem impl_GroupLikes.s_eq {ρ : Type} (N : Nat) (K : AV → Heap → Option ρ) (c0 : Nat → Int) (c1 : Nat → Int) :
    xbody (E49 N) ents impl_GroupLikes.kp N Go.Proofs.Try.f37 impl_GroupLikes.bd [.agg [⟨.i64, 2, c0⟩, ⟨.u8, 520, c1⟩]] [] K = (impl_GroupLikes.s N (fun d0 d1 d2 => K (.tup [.slice false 0 0 d0 .unk 8, .int .i64 (d1)]) [⟨true, .flat 0 (.ints .u8 d2)⟩]) (fun rv3 many4 x5 => xloop (xcode (E49 N) ents impl_GroupLikes.kp 0 N (cL (cK (cB (cA (cB (cB (cB impl_GroupLikes.bd))))))) 0) impl_GroupLikes.kp 0 0 N (impl_GroupLikes.st0 c0 c1 rv3 many4 x5) (impl_GroupLikes.k0 N K)) c0 c1) := by kernel_rfl

theorem impl_GroupLikes.eq {ρ : Type} (N : Nat) (K : AV → Heap → Option ρ) (c0 : Nat → Int) (c1 : Nat → Int) :
    xbody (E49 N) ents impl_GroupLikes.kp N Go.Proofs.Try.f37 impl_GroupLikes.bd [.agg [⟨.i64, 2, c0⟩, ⟨.u8, 520, c1⟩]] [] K = (impl_GroupLikes N (fun d0 d1 d2 => K (.tup [.slice false 0 0 d0 .unk 8, .int .i64 (d1)]) [⟨true, .flat 0 (.ints .u8 d2)⟩]) c0 c1) := by
  refine (impl_GroupLikes.s_eq N K c0 c1).trans ?_
  simp only [impl_GroupLikes.l0_eq, impl_GroupLikes.a0_0_eq, impl_GroupLikes.l1_eq, impl_GroupLikes.a1_0_eq]
  kernel_rfl

noncomputable def impl_GroupLikes.en (N : Nat) (ρ : Type) : List AV → Heap → (AV → Heap → Option ρ) → Option ρ
  | [.agg [⟨.i64, 2, c0⟩, ⟨.u8, 520, c1⟩]], [], K => (impl_GroupLikes N (fun d0 d1 d2 => K (.tup [.slice false 0 0 d0 .unk 8, .int .i64 (d1)]) [⟨true, .flat 0 (.ints .u8 d2)⟩]) c0 c1)
  | _, _, _ => none

theorem impl_GroupLikes.en_ok (N : Nat) (hE : EnvOk (E49 N) ents) (ρ : Type) (args : List AV) (sh : Heap) (K : AV → Heap → Option ρ) (r : ρ) (h : impl_GroupLikes.en N ρ args sh K = some r) : ∃ v sh', K v sh' = some r ∧ FnOk (E49 N).P 37 args sh v sh' := by
  unfold impl_GroupLikes.en at h
  split at h
  · exact fn_ok hE (kp := impl_GroupLikes.kp) (N := N) Go.Proofs.Try.func37 (c := impl_GroupLikes.bd) (by kernel_rfl) ((impl_GroupLikes.eq N _ _ _).trans h)
  · cases h

noncomputable def E50 (N : Nat) : Env := (E49 N).add 37 (impl_GroupLikes.en N)

theorem E50_ok (N : Nat) : EnvOk (E50 N) ents := Env.add_ok (E49_ok N) (impl_GroupLikes.en_ok N (E49_ok N))

noncomputable def laws_eqVector.kp : Keeps := ⟨[(0, [2, 3, 5], [], [])], [(0, [], [], [])], []⟩

noncomputable def laws_eqVector.bd : Code := bodyOf Go.Proofs.Try.f69

noncomputable def laws_eqVector.fin {ρ : Type} (N : Nat) (K : AV → Heap → Option ρ) : XE → St → Option ρ := finK (E50 N) laws_eqVector.kp.fins Go.Proofs.Try.f69 [] K

noncomputable def laws_eqVector.k0 {ρ : Type} (N : Nat) (K : AV → Heap → Option ρ) : XE → St → Option ρ := (blockK laws_eqVector.kp 0 0 (seqK (xcode (E50 N) ents laws_eqVector.kp 0 N (cB (cB laws_eqVector.bd)) 0) (laws_eqVector.fin N K)))

theorem laws_eqVector.k0_mix {ρ : Type} (N : Nat) (K : AV → Heap → Option ρ) : mixK (laws_eqVector.fin N K .ret) (laws_eqVector.k0 N K) = (laws_eqVector.k0 N K) := by
  funext e s; cases e <;> kernel_rfl

noncomputable def laws_eqVector.st0 (av0 : Nat → Int) (bv1 : Nat → Int) (i2 : Int) : St := ⟨sl 17 [(2, .sptr [(0, 8)]), (3, .sptr [(1, 8)]), (5, .int .i64 (i2))], [⟨true, .flat 8 (.ints .u8 av0)⟩, ⟨true, .flat 8 (.ints .u8 bv1)⟩]⟩

noncomputable def laws_eqVector.sx0_0 : St := ⟨sl 17 [], []⟩

theorem laws_eqVector.b0_gen {ρ : Type} (N : Nat) (K : AV → Heap → Option ρ) (L0 : St → Option ρ) (kv : XE → St → Option ρ) (av0 : Nat → Int) (bv1 : Nat → Int) (i2 : Int) :
    xcode (E50 N) ents laws_eqVector.kp 0 N (cL (cK (cB (cA (cB laws_eqVector.bd))))) 0 (laws_eqVector.st0 av0 bv1 i2) (roundK laws_eqVector.kp 0 0 L0 (mixK (laws_eqVector.fin N K .ret) kv)) = (laws_eqVector.b0 N (fun d0 => K (.bool (d0)) []) (fun i2 => L0 (laws_eqVector.st0 av0 bv1 i2)) (kv (.exit 0) (laws_eqVector.sx0_0)) av0 bv1 i2) := by kernel_rfl

theorem laws_eqVector.b0_eq {ρ : Type} (N : Nat) (K : AV → Heap → Option ρ) (L0 : St → Option ρ) (av0 : Nat → Int) (bv1 : Nat → Int) (i2 : Int) :
    xcode (E50 N) ents laws_eqVector.kp 0 N (cL (cK (cB (cA (cB laws_eqVector.bd))))) 0 (laws_eqVector.st0 av0 bv1 i2) (roundK laws_eqVector.kp 0 0 L0 (laws_eqVector.k0 N K)) = (laws_eqVector.b0 N (fun d0 => K (.bool (d0)) []) (fun i2 => L0 (laws_eqVector.st0 av0 bv1 i2)) ((laws_eqVector.k0 N K) (.exit 0) (laws_eqVector.sx0_0)) av0 bv1 i2) := by
  have h := laws_eqVector.b0_gen N K L0 (laws_eqVector.k0 N K) av0 bv1 i2
  rw [laws_eqVector.k0_mix] at h
  exact h

theorem laws_eqVector.a0_0_eq {ρ : Type} (N : Nat) (K : AV → Heap → Option ρ) :
    (laws_eqVector.k0 N K) (.exit 0) (laws_eqVector.sx0_0) = (laws_eqVector.a0_0 N (fun d0 => K (.bool (d0)) [])) := by kernel_rfl

theorem laws_eqVector.l0_eq {ρ : Type} (N : Nat) (K : AV → Heap → Option ρ) (av0 : Nat → Int) (bv1 : Nat → Int) :
    ∀ (m : Nat) (i2 : Int), xloop (xcode (E50 N) ents laws_eqVector.kp 0 N (cL (cK (cB (cA (cB laws_eqVector.bd))))) 0) laws_eqVector.kp 0 0 m (laws_eqVector.st0 av0 bv1 i2) (laws_eqVector.k0 N K) = (laws_eqVector.l0 N (fun d0 => K (.bool (d0)) []) av0 bv1 ((laws_eqVector.k0 N K) (.exit 0) (laws_eqVector.sx0_0)) m i2) := by
  intro m
  induction m with
  | zero => intros; rfl
  | succ m ih =>
    intro i2
    refine (laws_eqVector.b0_eq N K (fun s => xloop (xcode (E50 N) ents laws_eqVector.kp 0 N (cL (cK (cB (cA (cB laws_eqVector.bd))))) 0) laws_eqVector.kp 0 0 m s (laws_eqVector.k0 N K)) av0 bv1 i2).trans ?_
    simp only [ih]
    kernel_rfl

theorem laws_eqVector.s_eq {ρ : Type} (N : Nat) (K : AV → Heap → Option ρ) (av0 : Nat → Int) (bv1 : Nat → Int) :
    xbody (E50 N) ents laws_eqVector.kp N Go.Proofs.Try.f69 laws_eqVector.bd [.agg [⟨.u8, 8, av0⟩], .agg [⟨.u8, 8, bv1⟩]] [] K = (laws_eqVector.s N (fun d0 => K (.bool (d0)) []) (fun i2 => xloop (xcode (E50 N) ents laws_eqVector.kp 0 N (cL (cK (cB (cA (cB laws_eqVector.bd))))) 0) laws_eqVector.kp 0 0 N (laws_eqVector.st0 av0 bv1 i2) (laws_eqVector.k0 N K))) := by kernel_rfl

theorem laws_eqVector.eq {ρ : Type} (N : Nat) (K : AV → Heap → Option ρ) (av0 : Nat → Int) (bv1 : Nat → Int) :
    xbody (E50 N) ents laws_eqVector.kp N Go.Proofs.Try.f69 laws_eqVector.bd [.agg [⟨.u8, 8, av0⟩], .agg [⟨.u8, 8, bv1⟩]] [] K = (laws_eqVector N (fun d0 => K (.bool (d0)) []) av0 bv1) := by
  refine (laws_eqVector.s_eq N K av0 bv1).trans ?_
  simp only [laws_eqVector.l0_eq, laws_eqVector.a0_0_eq]
  kernel_rfl

noncomputable def laws_eqVector.en (N : Nat) (ρ : Type) : List AV → Heap → (AV → Heap → Option ρ) → Option ρ
  | [.agg [⟨.u8, 8, av0⟩], .agg [⟨.u8, 8, bv1⟩]], [], K => (laws_eqVector N (fun d0 => K (.bool (d0)) []) av0 bv1)
  | _, _, _ => none

theorem laws_eqVector.en_ok (N : Nat) (hE : EnvOk (E50 N) ents) (ρ : Type) (args : List AV) (sh : Heap) (K : AV → Heap → Option ρ) (r : ρ) (h : laws_eqVector.en N ρ args sh K = some r) : ∃ v sh', K v sh' = some r ∧ FnOk (E50 N).P 69 args sh v sh' := by
  unfold laws_eqVector.en at h
  split at h
  · exact fn_ok hE (kp := laws_eqVector.kp) (N := N) Go.Proofs.Try.func69 (c := laws_eqVector.bd) (by kernel_rfl) ((laws_eqVector.eq N _ _ _).trans h)
  · cases h

noncomputable def E51 (N : Nat) : Env := (E50 N).add 69 (laws_eqVector.en N)

theorem E51_ok (N : Nat) : EnvOk (E51 N) ents := Env.add_ok (E50_ok N) (laws_eqVector.en_ok N (E50_ok N))

noncomputable def laws_eqVectorS_susu.kp : Keeps := ⟨[(0, [0, 1, 5], [], [])], [(0, [], [], [])], []⟩

noncomputable def laws_eqVectorS_susu.bd : Code := bodyOf Go.Proofs.Try.f38

noncomputable def laws_eqVectorS_susu.fin {ρ : Type} (N : Nat) (K : AV → Heap → Option ρ) (gv2 : Nat) (gv3 : Nat → Int) (gv4 : Nat) (gv5 : Nat → Int) : XE → St → Option ρ := finK (E51 N) laws_eqVectorS_susu.kp.fins Go.Proofs.Try.f38 [⟨false, .flat gv2 (.ints .u8 gv3)⟩, ⟨false, .flat gv4 (.ints .u8 gv5)⟩] K

noncomputable def laws_eqVectorS_susu.k0 {ρ : Type} (N : Nat) (K : AV → Heap → Option ρ) (gv2 : Nat) (gv3 : Nat → Int) (gv4 : Nat) (gv5 : Nat → Int) : XE → St → Option ρ := (blockK laws_eqVectorS_susu.kp 2 0 (seqK (xcode (E51 N) ents laws_eqVectorS_susu.kp 2 N (cB (cB (cB laws_eqVectorS_susu.bd))) 0) (laws_eqVectorS_susu.fin N K gv2 gv3 gv4 gv5)))

theorem laws_eqVectorS_susu.k0_mix {ρ : Type} (N : Nat) (K : AV → Heap → Option ρ) (gv2 : Nat) (gv3 : Nat → Int) (gv4 : Nat) (gv5 : Nat → Int) : mixK (laws_eqVectorS_susu.fin N K gv2 gv3 gv4 gv5 .ret) (laws_eqVectorS_susu.k0 N K gv2 gv3 gv4 gv5) = (laws_eqVectorS_susu.k0 N K gv2 gv3 gv4 gv5) := by
  funext e s; cases e <;> kernel_rfl

noncomputable def laws_eqVectorS_susu.st0 (av0 : Nat) (bv1 : Nat) (gv2 : Nat) (gv3 : Nat → Int) (gv4 : Nat) (gv5 : Nat → Int) (i6 : Int) : St := ⟨sl 27 [(0, .slice false 0 0 av0 .unk 8), (1, .slice false 1 0 bv1 .unk 8), (5, .int .i64 (i6))], [⟨false, .flat gv2 (.ints .u8 gv3)⟩, ⟨false, .flat gv4 (.ints .u8 gv5)⟩]⟩

noncomputable def laws_eqVectorS_susu.sx0_0 (gv2 : Nat) (gv3 : Nat → Int) (gv4 : Nat) (gv5 : Nat → Int) : St := ⟨sl 27 [], [⟨false, .flat gv2 (.ints .u8 gv3)⟩, ⟨false, .flat gv4 (.ints .u8 gv5)⟩]⟩

theorem laws_eqVectorS_susu.b0_gen {ρ : Type} (N : Nat) (K : AV → Heap → Option ρ) (L0 : St → Option ρ) (kv : XE → St → Option ρ) (av0 : Nat) (bv1 : Nat) (gv2 : Nat) (gv3 : Nat → Int) (gv4 : Nat) (gv5 : Nat → Int) (i6 : Int) :
    xcode (E51 N) ents laws_eqVectorS_susu.kp 2 N (cL (cK (cB (cA (cB (cB laws_eqVectorS_susu.bd)))))) 0 (laws_eqVectorS_susu.st0 av0 bv1 gv2 gv3 gv4 gv5 i6) (roundK laws_eqVectorS_susu.kp 2 0 L0 (mixK (laws_eqVectorS_susu.fin N K gv2 gv3 gv4 gv5 .ret) kv)) = (laws_eqVectorS_susu.b0 N (fun d0 => K (.bool (d0)) [⟨false, .flat gv2 (.ints .u8 gv3)⟩, ⟨false, .flat gv4 (.ints .u8 gv5)⟩]) (fun i6 => L0 (laws_eqVectorS_susu.st0 av0 bv1 gv2 gv3 gv4 gv5 i6)) (kv (.exit 0) (laws_eqVectorS_susu.sx0_0 gv2 gv3 gv4 gv5)) av0 bv1 gv3 gv5 i6) := by kernel_rfl

theorem laws_eqVectorS_susu.b0_eq {ρ : Type} (N : Nat) (K : AV → Heap → Option ρ) (L0 : St → Option ρ) (av0 : Nat) (bv1 : Nat) (gv2 : Nat) (gv3 : Nat → Int) (gv4 : Nat) (gv5 : Nat → Int) (i6 : Int) :
    xcode (E51 N) ents laws_eqVectorS_susu.kp 2 N (cL (cK (cB (cA (cB (cB laws_eqVectorS_susu.bd)))))) 0 (laws_eqVectorS_susu.st0 av0 bv1 gv2 gv3 gv4 gv5 i6) (roundK laws_eqVectorS_susu.kp 2 0 L0 (laws_eqVectorS_susu.k0 N K gv2 gv3 gv4 gv5)) = (laws_eqVectorS_susu.b0 N (fun d0 => K (.bool (d0)) [⟨false, .flat gv2 (.ints .u8 gv3)⟩, ⟨false, .flat gv4 (.ints .u8 gv5)⟩]) (fun i6 => L0 (laws_eqVectorS_susu.st0 av0 bv1 gv2 gv3 gv4 gv5 i6)) ((laws_eqVectorS_susu.k0 N K gv2 gv3 gv4 gv5) (.exit 0) (laws_eqVectorS_susu.sx0_0 gv2 gv3 gv4 gv5)) av0 bv1 gv3 gv5 i6) := by
  have h := laws_eqVectorS_susu.b0_gen N K L0 (laws_eqVectorS_susu.k0 N K gv2 gv3 gv4 gv5) av0 bv1 gv2 gv3 gv4 gv5 i6
  rw [laws_eqVectorS_susu.k0_mix] at h
  exact h

theorem laws_eqVectorS_susu.a0_0_eq {ρ : Type} (N : Nat) (K : AV → Heap → Option ρ) (gv2 : Nat) (gv3 : Nat → Int) (gv4 : Nat) (gv5 : Nat → Int) :
    (laws_eqVectorS_susu.k0 N K gv2 gv3 gv4 gv5) (.exit 0) (laws_eqVectorS_susu.sx0_0 gv2 gv3 gv4 gv5) = (laws_eqVectorS_susu.a0_0 N (fun d0 => K (.bool (d0)) [⟨false, .flat gv2 (.ints .u8 gv3)⟩, ⟨false, .flat gv4 (.ints .u8 gv5)⟩])) := by kernel_rfl

theorem laws_eqVectorS_susu.l0_eq {ρ : Type} (N : Nat) (K : AV → Heap → Option ρ) (av0 : Nat) (bv1 : Nat) (gv2 : Nat) (gv3 : Nat → Int) (gv4 : Nat) (gv5 : Nat → Int) :
    ∀ (m : Nat) (i6 : Int), xloop (xcode (E51 N) ents laws_eqVectorS_susu.kp 2 N (cL (cK (cB (cA (cB (cB laws_eqVectorS_susu.bd)))))) 0) laws_eqVectorS_susu.kp 2 0 m (laws_eqVectorS_susu.st0 av0 bv1 gv2 gv3 gv4 gv5 i6) (laws_eqVectorS_susu.k0 N K gv2 gv3 gv4 gv5) = (laws_eqVectorS_susu.l0 N (fun d0 => K (.bool (d0)) [⟨false, .flat gv2 (.ints .u8 gv3)⟩, ⟨false, .flat gv4 (.ints .u8 gv5)⟩]) av0 bv1 gv3 gv5 ((laws_eqVectorS_susu.k0 N K gv2 gv3 gv4 gv5) (.exit 0) (laws_eqVectorS_susu.sx0_0 gv2 gv3 gv4 gv5)) m i6) := by
  intro m
  induction m with
  | zero => intros; rfl
  | succ m ih =>
    intro i6
    refine (laws_eqVectorS_susu.b0_eq N K (fun s => xloop (xcode (E51 N) ents laws_eqVectorS_susu.kp 2 N (cL (cK (cB (cA (cB (cB laws_eqVectorS_susu.bd)))))) 0) laws_eqVectorS_susu.kp 2 0 m s (laws_eqVectorS_susu.k0 N K gv2 gv3 gv4 gv5)) av0 bv1 gv2 gv3 gv4 gv5 i6).trans ?_
    simp only [ih]
    kernel_rfl

theorem laws_eqVectorS_susu.s_eq {ρ : Type} (N : Nat) (K : AV → Heap → Option ρ) (av0 : Nat) (bv1 : Nat) (gv2 : Nat) (gv3 : Nat → Int) (gv4 : Nat) (gv5 : Nat → Int) :
    xbody (E51 N) ents laws_eqVectorS_susu.kp N Go.Proofs.Try.f38 laws_eqVectorS_susu.bd [.slice false 0 0 av0 .unk 8, .slice false 1 0 bv1 .unk 8] [⟨false, .flat gv2 (.ints .u8 gv3)⟩, ⟨false, .flat gv4 (.ints .u8 gv5)⟩] K = (laws_eqVectorS_susu.s N (fun d0 => K (.bool (d0)) [⟨false, .flat gv2 (.ints .u8 gv3)⟩, ⟨false, .flat gv4 (.ints .u8 gv5)⟩]) (fun i6 => xloop (xcode (E51 N) ents laws_eqVectorS_susu.kp 2 N (cL (cK (cB (cA (cB (cB laws_eqVectorS_susu.bd)))))) 0) laws_eqVectorS_susu.kp 2 0 N (laws_eqVectorS_susu.st0 av0 bv1 gv2 gv3 gv4 gv5 i6) (laws_eqVectorS_susu.k0 N K gv2 gv3 gv4 gv5)) av0 bv1) := by kernel_rfl

theorem laws_eqVectorS_susu.eq {ρ : Type} (N : Nat) (K : AV → Heap → Option ρ) (av0 : Nat) (bv1 : Nat) (gv2 : Nat) (gv3 : Nat → Int) (gv4 : Nat) (gv5 : Nat → Int) :
    xbody (E51 N) ents laws_eqVectorS_susu.kp N Go.Proofs.Try.f38 laws_eqVectorS_susu.bd [.slice false 0 0 av0 .unk 8, .slice false 1 0 bv1 .unk 8] [⟨false, .flat gv2 (.ints .u8 gv3)⟩, ⟨false, .flat gv4 (.ints .u8 gv5)⟩] K = (laws_eqVectorS_susu N (fun d0 => K (.bool (d0)) [⟨false, .flat gv2 (.ints .u8 gv3)⟩, ⟨false, .flat gv4 (.ints .u8 gv5)⟩]) av0 bv1 gv2 gv3 gv4 gv5) := by
  refine (laws_eqVectorS_susu.s_eq N K av0 bv1 gv2 gv3 gv4 gv5).trans ?_
  simp only [laws_eqVectorS_susu.l0_eq, laws_eqVectorS_susu.a0_0_eq]
  kernel_rfl

noncomputable def laws_eqVectorS_susu.en (N : Nat) (ρ : Type) : List AV → Heap → (AV → Heap → Option ρ) → Option ρ
  | [.slice false 0 0 av0 .unk 8, .slice false 1 0 bv1 .unk 8], [⟨false, .flat gv2 (.ints .u8 gv3)⟩, ⟨false, .flat gv4 (.ints .u8 gv5)⟩], K => (laws_eqVectorS_susu N (fun d0 => K (.bool (d0)) [⟨false, .flat gv2 (.ints .u8 gv3)⟩, ⟨false, .flat gv4 (.ints .u8 gv5)⟩]) av0 bv1 gv2 gv3 gv4 gv5)
  | _, _, _ => none

theorem laws_eqVectorS_susu.en_ok (N : Nat) (hE : EnvOk (E51 N) ents) (ρ : Type) (args : List AV) (sh : Heap) (K : AV → Heap → Option ρ) (r : ρ) (h : laws_eqVectorS_susu.en N ρ args sh K = some r) : ∃ v sh', K v sh' = some r ∧ FnOk (E51 N).P 38 args sh v sh' := by
  unfold laws_eqVectorS_susu.en at h
  split at h
  · exact fn_ok hE (kp := laws_eqVectorS_susu.kp) (N := N) Go.Proofs.Try.func38 (c := laws_eqVectorS_susu.bd) (by kernel_rfl) ((laws_eqVectorS_susu.eq N _ _ _ _ _ _ _).trans h)
  · cases h

noncomputable def E52 (N : Nat) : Env := (E51 N).add 38 (laws_eqVectorS_susu.en N)

theorem E52_ok (N : Nat) : EnvOk (E52 N) ents := Env.add_ok (E51_ok N) (laws_eqVectorS_susu.en_ok N (E51_ok N))

noncomputable def laws_markVectorS_su.kp : Keeps := ⟨[(0, [0, 1, 5], [], []), (2, [0, 1, 5, 6], [], [])], [(0, [1], [], []), (2, [0, 1, 5], [], [])], []⟩

noncomputable def laws_markVectorS_su.bd : Code := bodyOf Go.Proofs.Try.f39

noncomputable def laws_markVectorS_su.fin {ρ : Type} (N : Nat) (K : AV → Heap → Option ρ) (gv2 : Nat) (gv3 : Nat → Int) : XE → St → Option ρ := finK (E52 N) laws_markVectorS_su.kp.fins Go.Proofs.Try.f39 [⟨true, .flat gv2 (.ints .u8 gv3)⟩] K

noncomputable def laws_markVectorS_su.k0 {ρ : Type} (N : Nat) (K : AV → Heap → Option ρ) (gv2 : Nat) (gv3 : Nat → Int) : XE → St → Option ρ := (blockK laws_markVectorS_su.kp 1 0 (seqK (xcode (E52 N) ents laws_markVectorS_su.kp 1 N (cB (cB laws_markVectorS_su.bd)) 0) (laws_markVectorS_su.fin N K gv2 gv3)))

theorem laws_markVectorS_su.k0_mix {ρ : Type} (N : Nat) (K : AV → Heap → Option ρ) (gv2 : Nat) (gv3 : Nat → Int) : mixK (laws_markVectorS_su.fin N K gv2 gv3 .ret) (laws_markVectorS_su.k0 N K gv2 gv3) = (laws_markVectorS_su.k0 N K gv2 gv3) := by
  funext e s; cases e <;> kernel_rfl

noncomputable def laws_markVectorS_su.st0 (av0 : Nat) (gv2 : Nat) (k4 : Int) (i5 : Int) (gv6 : Nat → Int) : St := ⟨sl 27 [(0, .slice false 0 0 av0 .unk 8), (1, .int .i64 (k4)), (5, .int .i64 (i5))], [⟨true, .flat gv2 (.ints .u8 gv6)⟩]⟩

noncomputable def laws_markVectorS_su.sx0_0 (gv2 : Nat) (ov12 : Int) (ov13 : Nat → Int) : St := ⟨sl 27 [(1, .int .i64 (ov12))], [⟨true, .flat gv2 (.ints .u8 ov13)⟩]⟩

noncomputable def laws_markVectorS_su.k1g {ρ : Type} (N : Nat) (L0 : St → Option ρ) (kv : XE → St → Option ρ) : XE → St → Option ρ := (blockK laws_markVectorS_su.kp 1 2 (blockK laws_markVectorS_su.kp 1 1 (seqK (xcode (E52 N) ents laws_markVectorS_su.kp 1 N (cB (cB (cL (cK (cB (cA (cB laws_markVectorS_su.bd))))))) 0) (roundK laws_markVectorS_su.kp 1 0 L0 kv))))

theorem laws_markVectorS_su.k1_mix {ρ : Type} (N : Nat) (K : AV → Heap → Option ρ) (L0 : St → Option ρ) (gv2 : Nat) (gv3 : Nat → Int) : mixK (laws_markVectorS_su.fin N K gv2 gv3 .ret) (laws_markVectorS_su.k1g N L0 (laws_markVectorS_su.k0 N K gv2 gv3)) = (laws_markVectorS_su.k1g N L0 (laws_markVectorS_su.k0 N K gv2 gv3)) := by
  funext e s; cases e <;> kernel_rfl

noncomputable def laws_markVectorS_su.st1 (av0 : Nat) (gv2 : Nat) (i5 : Int) (k7 : Int) (j8 : Int) (gv9 : Nat → Int) : St := ⟨sl 27 [(0, .slice false 0 0 av0 .unk 8), (1, .int .i64 (k7)), (5, .int .i64 (i5)), (6, .int .i64 (j8))], [⟨true, .flat gv2 (.ints .u8 gv9)⟩]⟩

noncomputable def laws_markVectorS_su.sx1_0 (av0 : Nat) (gv2 : Nat) (i5 : Int) (ov10 : Int) (ov11 : Nat → Int) : St := ⟨sl 27 [(0, .slice false 0 0 av0 .unk 8), (1, .int .i64 (ov10)), (5, .int .i64 (i5))], [⟨true, .flat gv2 (.ints .u8 ov11)⟩]⟩

theorem laws_markVectorS_su.b1_gen {ρ : Type} (N : Nat) (K : AV → Heap → Option ρ) (L1 : St → Option ρ) (kv : XE → St → Option ρ) (av0 : Nat) (gv2 : Nat) (gv3 : Nat → Int) (i5 : Int) (k7 : Int) (j8 : Int) (gv9 : Nat → Int) :
    xcode (E52 N) ents laws_markVectorS_su.kp 1 N (cL (cK (cB (cK (cA (cB (cL (cK (cB (cA (cB laws_markVectorS_su.bd))))))))))) 2 (laws_markVectorS_su.st1 av0 gv2 i5 k7 j8 gv9) (roundK laws_markVectorS_su.kp 1 2 L1 (mixK (laws_markVectorS_su.fin N K gv2 gv3 .ret) kv)) = (laws_markVectorS_su.b1 N (fun d0 d1 => K (.int .i64 (d0)) [⟨true, .flat gv2 (.ints .u8 d1)⟩]) (fun k7 j8 gv9 => L1 (laws_markVectorS_su.st1 av0 gv2 i5 k7 j8 gv9)) (fun ov10 ov11 => kv (.exit 2) (laws_markVectorS_su.sx1_0 av0 gv2 i5 ov10 ov11)) av0 i5 k7 j8 gv9) := by kernel_rfl

theorem laws_markVectorS_su.b1_eq {ρ : Type} (N : Nat) (K : AV → Heap → Option ρ) (L0 : St → Option ρ) (L1 : St → Option ρ) (av0 : Nat) (gv2 : Nat) (gv3 : Nat → Int) (i5 : Int) (k7 : Int) (j8 : Int) (gv9 : Nat → Int) :
    xcode (E52 N) ents laws_markVectorS_su.kp 1 N (cL (cK (cB (cK (cA (cB (cL (cK (cB (cA (cB laws_markVectorS_su.bd))))))))))) 2 (laws_markVectorS_su.st1 av0 gv2 i5 k7 j8 gv9) (roundK laws_markVectorS_su.kp 1 2 L1 (laws_markVectorS_su.k1g N L0 (laws_markVectorS_su.k0 N K gv2 gv3))) = (laws_markVectorS_su.b1 N (fun d0 d1 => K (.int .i64 (d0)) [⟨true, .flat gv2 (.ints .u8 d1)⟩]) (fun k7 j8 gv9 => L1 (laws_markVectorS_su.st1 av0 gv2 i5 k7 j8 gv9)) (fun ov10 ov11 => (laws_markVectorS_su.k1g N L0 (laws_markVectorS_su.k0 N K gv2 gv3)) (.exit 2) (laws_markVectorS_su.sx1_0 av0 gv2 i5 ov10 ov11)) av0 i5 k7 j8 gv9) := by
  have h := laws_markVectorS_su.b1_gen N K L1 (laws_markVectorS_su.k1g N L0 (laws_markVectorS_su.k0 N K gv2 gv3)) av0 gv2 gv3 i5 k7 j8 gv9
  rw [laws_markVectorS_su.k1_mix] at h
  exact h

theorem laws_markVectorS_su.a1_0_gen {ρ : Type} (N : Nat) (K : AV → Heap → Option ρ) (L0 : St → Option ρ) (kv : XE → St → Option ρ) (av0 : Nat) (gv2 : Nat) (gv3 : Nat → Int) (i5 : Int) (ov10 : Int) (ov11 : Nat → Int) :
    (laws_markVectorS_su.k1g N L0 (mixK (laws_markVectorS_su.fin N K gv2 gv3 .ret) kv)) (.exit 2) (laws_markVectorS_su.sx1_0 av0 gv2 i5 ov10 ov11) = (laws_markVectorS_su.a1_0 N (fun d0 d1 => K (.int .i64 (d0)) [⟨true, .flat gv2 (.ints .u8 d1)⟩]) (fun k4 i5 gv6 => L0 (laws_markVectorS_su.st0 av0 gv2 k4 i5 gv6)) (fun ov12 ov13 => kv (.exit 0) (laws_markVectorS_su.sx0_0 gv2 ov12 ov13)) i5 ov10 ov11) := by kernel_rfl

theorem laws_markVectorS_su.a1_0_eq {ρ : Type} (N : Nat) (K : AV → Heap → Option ρ) (L0 : St → Option ρ) (av0 : Nat) (gv2 : Nat) (gv3 : Nat → Int) (i5 : Int) (ov10 : Int) (ov11 : Nat → Int) :
    (laws_markVectorS_su.k1g N L0 (laws_markVectorS_su.k0 N K gv2 gv3)) (.exit 2) (laws_markVectorS_su.sx1_0 av0 gv2 i5 ov10 ov11) = (laws_markVectorS_su.a1_0 N (fun d0 d1 => K (.int .i64 (d0)) [⟨true, .flat gv2 (.ints .u8 d1)⟩]) (fun k4 i5 gv6 => L0 (laws_markVectorS_su.st0 av0 gv2 k4 i5 gv6)) (fun ov12 ov13 => (laws_markVectorS_su.k0 N K gv2 gv3) (.exit 0) (laws_markVectorS_su.sx0_0 gv2 ov12 ov13)) i5 ov10 ov11) := by
  have h := laws_markVectorS_su.a1_0_gen N K L0 (laws_markVectorS_su.k0 N K gv2 gv3) av0 gv2 gv3 i5 ov10 ov11
  rw [laws_markVectorS_su.k0_mix] at h
  exact h

theorem laws_markVectorS_su.b0_gen {ρ : Type} (N : Nat) (K : AV → Heap → Option ρ) (L0 : St → Option ρ) (kv : XE → St → Option ρ) (av0 : Nat) (gv2 : Nat) (gv3 : Nat → Int) (k4 : Int) (i5 : Int) (gv6 : Nat → Int) :
    xcode (E52 N) ents laws_markVectorS_su.kp 1 N (cL (cK (cB (cA (cB laws_markVectorS_su.bd))))) 0 (laws_markVectorS_su.st0 av0 gv2 k4 i5 gv6) (roundK laws_markVectorS_su.kp 1 0 L0 (mixK (laws_markVectorS_su.fin N K gv2 gv3 .ret) kv)) = (laws_markVectorS_su.b0 N (fun d0 d1 => K (.int .i64 (d0)) [⟨true, .flat gv2 (.ints .u8 d1)⟩]) (fun k7 j8 gv9 => xloop (xcode (E52 N) ents laws_markVectorS_su.kp 1 N (cL (cK (cB (cK (cA (cB (cL (cK (cB (cA (cB laws_markVectorS_su.bd))))))))))) 2) laws_markVectorS_su.kp 1 2 N (laws_markVectorS_su.st1 av0 gv2 i5 k7 j8 gv9) (laws_markVectorS_su.k1g N L0 (mixK (laws_markVectorS_su.fin N K gv2 gv3 .ret) kv))) (fun k4 i5 gv6 => L0 (laws_markVectorS_su.st0 av0 gv2 k4 i5 gv6)) (fun ov12 ov13 => kv (.exit 0) (laws_markVectorS_su.sx0_0 gv2 ov12 ov13)) av0 k4 i5 gv6) := by kernel_rfl

theorem laws_markVectorS_su.b0_eq {ρ : Type} (N : Nat) (K : AV → Heap → Option ρ) (L0 : St → Option ρ) (av0 : Nat) (gv2 : Nat) (gv3 : Nat → Int) (k4 : Int) (i5 : Int) (gv6 : Nat → Int) :
    xcode (E52 N) ents laws_markVectorS_su.kp 1 N (cL (cK (cB (cA (cB laws_markVectorS_su.bd))))) 0 (laws_markVectorS_su.st0 av0 gv2 k4 i5 gv6) (roundK laws_markVectorS_su.kp 1 0 L0 (laws_markVectorS_su.k0 N K gv2 gv3)) = (laws_markVectorS_su.b0 N (fun d0 d1 => K (.int .i64 (d0)) [⟨true, .flat gv2 (.ints .u8 d1)⟩]) (fun k7 j8 gv9 => xloop (xcode (E52 N) ents laws_markVectorS_su.kp 1 N (cL (cK (cB (cK (cA (cB (cL (cK (cB (cA (cB laws_markVectorS_su.bd))))))))))) 2) laws_markVectorS_su.kp 1 2 N (laws_markVectorS_su.st1 av0 gv2 i5 k7 j8 gv9) (laws_markVectorS_su.k1g N L0 (laws_markVectorS_su.k0 N K gv2 gv3))) (fun k4 i5 gv6 => L0 (laws_markVectorS_su.st0 av0 gv2 k4 i5 gv6)) (fun ov12 ov13 => (laws_markVectorS_su.k0 N K gv2 gv3) (.exit 0) (laws_markVectorS_su.sx0_0 gv2 ov12 ov13)) av0 k4 i5 gv6) := by
  have h := laws_markVectorS_su.b0_gen N K L0 (laws_markVectorS_su.k0 N K gv2 gv3) av0 gv2 gv3 k4 i5 gv6
  rw [laws_markVectorS_su.k0_mix] at h
  exact h

theorem laws_markVectorS_su.a0_0_eq {ρ : Type} (N : Nat) (K : AV → Heap → Option ρ) (gv2 : Nat) (gv3 : Nat → Int) (ov12 : Int) (ov13 : Nat → Int) :
    (laws_markVectorS_su.k0 N K gv2 gv3) (.exit 0) (laws_markVectorS_su.sx0_0 gv2 ov12 ov13) = (laws_markVectorS_su.a0_0 N (fun d0 d1 => K (.int .i64 (d0)) [⟨true, .flat gv2 (.ints .u8 d1)⟩]) ov12 ov13) := by kernel_rfl

theorem laws_markVectorS_su.l1_eq {ρ : Type} (N : Nat) (K : AV → Heap → Option ρ) (L0 : St → Option ρ) (av0 : Nat) (gv2 : Nat) (gv3 : Nat → Int) (i5 : Int) :
    ∀ (m : Nat) (k7 : Int) (j8 : Int) (gv9 : Nat → Int), xloop (xcode (E52 N) ents laws_markVectorS_su.kp 1 N (cL (cK (cB (cK (cA (cB (cL (cK (cB (cA (cB laws_markVectorS_su.bd))))))))))) 2) laws_markVectorS_su.kp 1 2 m (laws_markVectorS_su.st1 av0 gv2 i5 k7 j8 gv9) (laws_markVectorS_su.k1g N L0 (laws_markVectorS_su.k0 N K gv2 gv3)) = (laws_markVectorS_su.l1 N (fun d0 d1 => K (.int .i64 (d0)) [⟨true, .flat gv2 (.ints .u8 d1)⟩]) av0 i5 (fun ov10 ov11 => (laws_markVectorS_su.k1g N L0 (laws_markVectorS_su.k0 N K gv2 gv3)) (.exit 2) (laws_markVectorS_su.sx1_0 av0 gv2 i5 ov10 ov11)) m k7 j8 gv9) := by
  intro m
  induction m with
  | zero => intros; rfl
  | succ m ih =>
    intro k7 j8 gv9
    refine (laws_markVectorS_su.b1_eq N K L0 (fun s => xloop (xcode (E52 N) ents laws_markVectorS_su.kp 1 N (cL (cK (cB (cK (cA (cB (cL (cK (cB (cA (cB laws_markVectorS_su.bd))))))))))) 2) laws_markVectorS_su.kp 1 2 m s (laws_markVectorS_su.k1g N L0 (laws_markVectorS_su.k0 N K gv2 gv3))) av0 gv2 gv3 i5 k7 j8 gv9).trans ?_
    simp only [ih]
    kernel_rfl

theorem laws_markVectorS_su.l0_eq {ρ : Type} (N : Nat) (K : AV → Heap → Option ρ) (av0 : Nat) (gv2 : Nat) (gv3 : Nat → Int) :
    ∀ (m : Nat) (k4 : Int) (i5 : Int) (gv6 : Nat → Int), xloop (xcode (E52 N) ents laws_markVectorS_su.kp 1 N (cL (cK (cB (cA (cB laws_markVectorS_su.bd))))) 0) laws_markVectorS_su.kp 1 0 m (laws_markVectorS_su.st0 av0 gv2 k4 i5 gv6) (laws_markVectorS_su.k0 N K gv2 gv3) = (laws_markVectorS_su.l0 N (fun d0 d1 => K (.int .i64 (d0)) [⟨true, .flat gv2 (.ints .u8 d1)⟩]) av0 (fun ov12 ov13 => (laws_markVectorS_su.k0 N K gv2 gv3) (.exit 0) (laws_markVectorS_su.sx0_0 gv2 ov12 ov13)) m k4 i5 gv6) := by
  intro m
  induction m with
  | zero => intros; rfl
  | succ m ih =>
    intro k4 i5 gv6
    refine (laws_markVectorS_su.b0_eq N K (fun s => xloop (xcode (E52 N) ents laws_markVectorS_su.kp 1 N (cL (cK (cB (cA (cB laws_markVectorS_su.bd))))) 0) laws_markVectorS_su.kp 1 0 m s (laws_markVectorS_su.k0 N K gv2 gv3)) av0 gv2 gv3 k4 i5 gv6).trans ?_
    simp only [ih, laws_markVectorS_su.l1_eq, laws_markVectorS_su.a1_0_eq]
    kernel_rfl

theorem laws_markVectorS_su.s_eq {ρ : Type} (N : Nat) (K : AV → Heap → Option ρ) (av0 : Nat) (k1 : Int) (gv2 : Nat) (gv3 : Nat → Int) :
    xbody (E52 N) ents laws_markVectorS_su.kp N Go.Proofs.Try.f39 laws_markVectorS_su.bd [.slice false 0 0 av0 .unk 8, .int .i64 (k1)] [⟨true, .flat gv2 (.ints .u8 gv3)⟩] K = (laws_markVectorS_su.s N (fun d0 d1 => K (.int .i64 (d0)) [⟨true, .flat gv2 (.ints .u8 d1)⟩]) (fun k4 i5 gv6 => xloop (xcode (E52 N) ents laws_markVectorS_su.kp 1 N (cL (cK (cB (cA (cB laws_markVectorS_su.bd))))) 0) laws_markVectorS_su.kp 1 0 N (laws_markVectorS_su.st0 av0 gv2 k4 i5 gv6) (laws_markVectorS_su.k0 N K gv2 gv3)) k1 gv3) := by kernel_rfl

theorem laws_markVectorS_su.eq {ρ : Type} (N : Nat) (K : AV → Heap → Option ρ) (av0 : Nat) (k1 : Int) (gv2 : Nat) (gv3 : Nat → Int) :
    xbody (E52 N) ents laws_markVectorS_su.kp N Go.Proofs.Try.f39 laws_markVectorS_su.bd [.slice false 0 0 av0 .unk 8, .int .i64 (k1)] [⟨true, .flat gv2 (.ints .u8 gv3)⟩] K = (laws_markVectorS_su N (fun d0 d1 => K (.int .i64 (d0)) [⟨true, .flat gv2 (.ints .u8 d1)⟩]) av0 k1 gv2 gv3) := by
  refine (laws_markVectorS_su.s_eq N K av0 k1 gv2 gv3).trans ?_
  simp only [laws_markVectorS_su.l0_eq, laws_markVectorS_su.a0_0_eq]
  kernel_rfl

noncomputable def laws_markVectorS_su.en (N : Nat) (ρ : Type) : List AV → Heap → (AV → Heap → Option ρ) → Option ρ
  | [.slice false 0 0 av0 .unk 8, .int .i64 (k1)], [⟨true, .flat gv2 (.ints .u8 gv3)⟩], K => (laws_markVectorS_su N (fun d0 d1 => K (.int .i64 (d0)) [⟨true, .flat gv2 (.ints .u8 d1)⟩]) av0 k1 gv2 gv3)
  | _, _, _ => none

theorem laws_markVectorS_su.en_ok (N : Nat) (hE : EnvOk (E52 N) ents) (ρ : Type) (args : List AV) (sh : Heap) (K : AV → Heap → Option ρ) (r : ρ) (h : laws_markVectorS_su.en N ρ args sh K = some r) : ∃ v sh', K v sh' = some r ∧ FnOk (E52 N).P 39 args sh v sh' := by
  unfold laws_markVectorS_su.en at h
  split at h
  · exact fn_ok hE (kp := laws_markVectorS_su.kp) (N := N) Go.Proofs.Try.func39 (c := laws_markVectorS_su.bd) (by kernel_rfl) ((laws_markVectorS_su.eq N _ _ _ _ _).trans h)
  · cases h

noncomputable def E53 (N : Nat) : Env := (E52 N).add 39 (laws_markVectorS_su.en N)

theorem E53_ok (N : Nat) : EnvOk (E53 N) ents := Env.add_ok (E52_ok N) (laws_markVectorS_su.en_ok N (E52_ok N))

noncomputable def laws_heldVectorS_su.kp : Keeps := ⟨[(0, [0, 1, 5], [], []), (2, [0, 1, 5, 6], [], [])], [(0, [1], [], []), (2, [0, 1, 5], [], [])], []⟩

noncomputable def laws_heldVectorS_su.bd : Code := bodyOf Go.Proofs.Try.f40

noncomputable def laws_heldVectorS_su.fin {ρ : Type} (N : Nat) (K : AV → Heap → Option ρ) (gv2 : Nat) (gv3 : Nat → Int) : XE → St → Option ρ := finK (E53 N) laws_heldVectorS_su.kp.fins Go.Proofs.Try.f40 [⟨false, .flat gv2 (.ints .u8 gv3)⟩] K

noncomputable def laws_heldVectorS_su.k0 {ρ : Type} (N : Nat) (K : AV → Heap → Option ρ) (gv2 : Nat) (gv3 : Nat → Int) : XE → St → Option ρ := (blockK laws_heldVectorS_su.kp 1 0 (seqK (xcode (E53 N) ents laws_heldVectorS_su.kp 1 N (cB (cB laws_heldVectorS_su.bd)) 0) (laws_heldVectorS_su.fin N K gv2 gv3)))

theorem laws_heldVectorS_su.k0_mix {ρ : Type} (N : Nat) (K : AV → Heap → Option ρ) (gv2 : Nat) (gv3 : Nat → Int) : mixK (laws_heldVectorS_su.fin N K gv2 gv3 .ret) (laws_heldVectorS_su.k0 N K gv2 gv3) = (laws_heldVectorS_su.k0 N K gv2 gv3) := by
  funext e s; cases e <;> kernel_rfl

noncomputable def laws_heldVectorS_su.st0 (av0 : Nat) (gv2 : Nat) (gv3 : Nat → Int) (k4 : Int) (i5 : Int) : St := ⟨sl 29 [(0, .slice false 0 0 av0 .unk 8), (1, .int .i64 (k4)), (5, .int .i64 (i5))], [⟨false, .flat gv2 (.ints .u8 gv3)⟩]⟩

noncomputable def laws_heldVectorS_su.sx0_0 (gv2 : Nat) (gv3 : Nat → Int) (ov9 : Int) : St := ⟨sl 29 [(1, .int .i64 (ov9))], [⟨false, .flat gv2 (.ints .u8 gv3)⟩]⟩

noncomputable def laws_heldVectorS_su.k1g {ρ : Type} (N : Nat) (L0 : St → Option ρ) (kv : XE → St → Option ρ) : XE → St → Option ρ := (blockK laws_heldVectorS_su.kp 1 2 (blockK laws_heldVectorS_su.kp 1 1 (seqK (xcode (E53 N) ents laws_heldVectorS_su.kp 1 N (cB (cB (cL (cK (cB (cA (cB laws_heldVectorS_su.bd))))))) 0) (roundK laws_heldVectorS_su.kp 1 0 L0 kv))))

theorem laws_heldVectorS_su.k1_mix {ρ : Type} (N : Nat) (K : AV → Heap → Option ρ) (L0 : St → Option ρ) (gv2 : Nat) (gv3 : Nat → Int) : mixK (laws_heldVectorS_su.fin N K gv2 gv3 .ret) (laws_heldVectorS_su.k1g N L0 (laws_heldVectorS_su.k0 N K gv2 gv3)) = (laws_heldVectorS_su.k1g N L0 (laws_heldVectorS_su.k0 N K gv2 gv3)) := by
  funext e s; cases e <;> kernel_rfl

noncomputable def laws_heldVectorS_su.st1 (av0 : Nat) (gv2 : Nat) (gv3 : Nat → Int) (i5 : Int) (k6 : Int) (j7 : Int) : St := ⟨sl 29 [(0, .slice false 0 0 av0 .unk 8), (1, .int .i64 (k6)), (5, .int .i64 (i5)), (6, .int .i64 (j7))], [⟨false, .flat gv2 (.ints .u8 gv3)⟩]⟩

noncomputable def laws_heldVectorS_su.sx1_0 (av0 : Nat) (gv2 : Nat) (gv3 : Nat → Int) (i5 : Int) (ov8 : Int) : St := ⟨sl 29 [(0, .slice false 0 0 av0 .unk 8), (1, .int .i64 (ov8)), (5, .int .i64 (i5))], [⟨false, .flat gv2 (.ints .u8 gv3)⟩]⟩

theorem laws_heldVectorS_su.b1_gen {ρ : Type} (N : Nat) (K : AV → Heap → Option ρ) (L1 : St → Option ρ) (kv : XE → St → Option ρ) (av0 : Nat) (gv2 : Nat) (gv3 : Nat → Int) (i5 : Int) (k6 : Int) (j7 : Int) :
    xcode (E53 N) ents laws_heldVectorS_su.kp 1 N (cL (cK (cB (cK (cA (cB (cL (cK (cB (cA (cB laws_heldVectorS_su.bd))))))))))) 2 (laws_heldVectorS_su.st1 av0 gv2 gv3 i5 k6 j7) (roundK laws_heldVectorS_su.kp 1 2 L1 (mixK (laws_heldVectorS_su.fin N K gv2 gv3 .ret) kv)) = (laws_heldVectorS_su.b1 N (fun d0 => K (.int .i64 (d0)) [⟨false, .flat gv2 (.ints .u8 gv3)⟩]) (fun k6 j7 => L1 (laws_heldVectorS_su.st1 av0 gv2 gv3 i5 k6 j7)) (fun ov8 => kv (.exit 2) (laws_heldVectorS_su.sx1_0 av0 gv2 gv3 i5 ov8)) av0 gv3 i5 k6 j7) := by kernel_rfl

theorem laws_heldVectorS_su.b1_eq {ρ : Type} (N : Nat) (K : AV → Heap → Option ρ) (L0 : St → Option ρ) (L1 : St → Option ρ) (av0 : Nat) (gv2 : Nat) (gv3 : Nat → Int) (i5 : Int) (k6 : Int) (j7 : Int) :
    xcode (E53 N) ents laws_heldVectorS_su.kp 1 N (cL (cK (cB (cK (cA (cB (cL (cK (cB (cA (cB laws_heldVectorS_su.bd))))))))))) 2 (laws_heldVectorS_su.st1 av0 gv2 gv3 i5 k6 j7) (roundK laws_heldVectorS_su.kp 1 2 L1 (laws_heldVectorS_su.k1g N L0 (laws_heldVectorS_su.k0 N K gv2 gv3))) = (laws_heldVectorS_su.b1 N (fun d0 => K (.int .i64 (d0)) [⟨false, .flat gv2 (.ints .u8 gv3)⟩]) (fun k6 j7 => L1 (laws_heldVectorS_su.st1 av0 gv2 gv3 i5 k6 j7)) (fun ov8 => (laws_heldVectorS_su.k1g N L0 (laws_heldVectorS_su.k0 N K gv2 gv3)) (.exit 2) (laws_heldVectorS_su.sx1_0 av0 gv2 gv3 i5 ov8)) av0 gv3 i5 k6 j7) := by
  have h := laws_heldVectorS_su.b1_gen N K L1 (laws_heldVectorS_su.k1g N L0 (laws_heldVectorS_su.k0 N K gv2 gv3)) av0 gv2 gv3 i5 k6 j7
  rw [laws_heldVectorS_su.k1_mix] at h
  exact h

theorem laws_heldVectorS_su.a1_0_gen {ρ : Type} (N : Nat) (K : AV → Heap → Option ρ) (L0 : St → Option ρ) (kv : XE → St → Option ρ) (av0 : Nat) (gv2 : Nat) (gv3 : Nat → Int) (i5 : Int) (ov8 : Int) :
    (laws_heldVectorS_su.k1g N L0 (mixK (laws_heldVectorS_su.fin N K gv2 gv3 .ret) kv)) (.exit 2) (laws_heldVectorS_su.sx1_0 av0 gv2 gv3 i5 ov8) = (laws_heldVectorS_su.a1_0 N (fun d0 => K (.int .i64 (d0)) [⟨false, .flat gv2 (.ints .u8 gv3)⟩]) (fun k4 i5 => L0 (laws_heldVectorS_su.st0 av0 gv2 gv3 k4 i5)) (fun ov9 => kv (.exit 0) (laws_heldVectorS_su.sx0_0 gv2 gv3 ov9)) i5 ov8) := by kernel_rfl

theorem laws_heldVectorS_su.a1_0_eq {ρ : Type} (N : Nat) (K : AV → Heap → Option ρ) (L0 : St → Option ρ) (av0 : Nat) (gv2 : Nat) (gv3 : Nat → Int) (i5 : Int) (ov8 : Int) :
    (laws_heldVectorS_su.k1g N L0 (laws_heldVectorS_su.k0 N K gv2 gv3)) (.exit 2) (laws_heldVectorS_su.sx1_0 av0 gv2 gv3 i5 ov8) = (laws_heldVectorS_su.a1_0 N (fun d0 => K (.int .i64 (d0)) [⟨false, .flat gv2 (.ints .u8 gv3)⟩]) (fun k4 i5 => L0 (laws_heldVectorS_su.st0 av0 gv2 gv3 k4 i5)) (fun ov9 => (laws_heldVectorS_su.k0 N K gv2 gv3) (.exit 0) (laws_heldVectorS_su.sx0_0 gv2 gv3 ov9)) i5 ov8) := by
  have h := laws_heldVectorS_su.a1_0_gen N K L0 (laws_heldVectorS_su.k0 N K gv2 gv3) av0 gv2 gv3 i5 ov8
  rw [laws_heldVectorS_su.k0_mix] at h
  exact h

theorem laws_heldVectorS_su.b0_gen {ρ : Type} (N : Nat) (K : AV → Heap → Option ρ) (L0 : St → Option ρ) (kv : XE → St → Option ρ) (av0 : Nat) (gv2 : Nat) (gv3 : Nat → Int) (k4 : Int) (i5 : Int) :
    xcode (E53 N) ents laws_heldVectorS_su.kp 1 N (cL (cK (cB (cA (cB laws_heldVectorS_su.bd))))) 0 (laws_heldVectorS_su.st0 av0 gv2 gv3 k4 i5) (roundK laws_heldVectorS_su.kp 1 0 L0 (mixK (laws_heldVectorS_su.fin N K gv2 gv3 .ret) kv)) = (laws_heldVectorS_su.b0 N (fun d0 => K (.int .i64 (d0)) [⟨false, .flat gv2 (.ints .u8 gv3)⟩]) (fun k6 j7 => xloop (xcode (E53 N) ents laws_heldVectorS_su.kp 1 N (cL (cK (cB (cK (cA (cB (cL (cK (cB (cA (cB laws_heldVectorS_su.bd))))))))))) 2) laws_heldVectorS_su.kp 1 2 N (laws_heldVectorS_su.st1 av0 gv2 gv3 i5 k6 j7) (laws_heldVectorS_su.k1g N L0 (mixK (laws_heldVectorS_su.fin N K gv2 gv3 .ret) kv))) (fun k4 i5 => L0 (laws_heldVectorS_su.st0 av0 gv2 gv3 k4 i5)) (fun ov9 => kv (.exit 0) (laws_heldVectorS_su.sx0_0 gv2 gv3 ov9)) av0 k4 i5) := by kernel_rfl

theorem laws_heldVectorS_su.b0_eq {ρ : Type} (N : Nat) (K : AV → Heap → Option ρ) (L0 : St → Option ρ) (av0 : Nat) (gv2 : Nat) (gv3 : Nat → Int) (k4 : Int) (i5 : Int) :
    xcode (E53 N) ents laws_heldVectorS_su.kp 1 N (cL (cK (cB (cA (cB laws_heldVectorS_su.bd))))) 0 (laws_heldVectorS_su.st0 av0 gv2 gv3 k4 i5) (roundK laws_heldVectorS_su.kp 1 0 L0 (laws_heldVectorS_su.k0 N K gv2 gv3)) = (laws_heldVectorS_su.b0 N (fun d0 => K (.int .i64 (d0)) [⟨false, .flat gv2 (.ints .u8 gv3)⟩]) (fun k6 j7 => xloop (xcode (E53 N) ents laws_heldVectorS_su.kp 1 N (cL (cK (cB (cK (cA (cB (cL (cK (cB (cA (cB laws_heldVectorS_su.bd))))))))))) 2) laws_heldVectorS_su.kp 1 2 N (laws_heldVectorS_su.st1 av0 gv2 gv3 i5 k6 j7) (laws_heldVectorS_su.k1g N L0 (laws_heldVectorS_su.k0 N K gv2 gv3))) (fun k4 i5 => L0 (laws_heldVectorS_su.st0 av0 gv2 gv3 k4 i5)) (fun ov9 => (laws_heldVectorS_su.k0 N K gv2 gv3) (.exit 0) (laws_heldVectorS_su.sx0_0 gv2 gv3 ov9)) av0 k4 i5) := by
  have h := laws_heldVectorS_su.b0_gen N K L0 (laws_heldVectorS_su.k0 N K gv2 gv3) av0 gv2 gv3 k4 i5
  rw [laws_heldVectorS_su.k0_mix] at h
  exact h

theorem laws_heldVectorS_su.a0_0_eq {ρ : Type} (N : Nat) (K : AV → Heap → Option ρ) (gv2 : Nat) (gv3 : Nat → Int) (ov9 : Int) :
    (laws_heldVectorS_su.k0 N K gv2 gv3) (.exit 0) (laws_heldVectorS_su.sx0_0 gv2 gv3 ov9) = (laws_heldVectorS_su.a0_0 N (fun d0 => K (.int .i64 (d0)) [⟨false, .flat gv2 (.ints .u8 gv3)⟩]) ov9) := by kernel_rfl

theorem laws_heldVectorS_su.l1_eq {ρ : Type} (N : Nat) (K : AV → Heap → Option ρ) (L0 : St → Option ρ) (av0 : Nat) (gv2 : Nat) (gv3 : Nat → Int) (i5 : Int) :
    ∀ (m : Nat) (k6 : Int) (j7 : Int), xloop (xcode (E53 N) ents laws_heldVectorS_su.kp 1 N (cL (cK (cB (cK (cA (cB (cL (cK (cB (cA (cB laws_heldVectorS_su.bd))))))))))) 2) laws_heldVectorS_su.kp 1 2 m (laws_heldVectorS_su.st1 av0 gv2 gv3 i5 k6 j7) (laws_heldVectorS_su.k1g N L0 (laws_heldVectorS_su.k0 N K gv2 gv3)) = (laws_heldVectorS_su.l1 N (fun d0 => K (.int .i64 (d0)) [⟨false, .flat gv2 (.ints .u8 gv3)⟩]) av0 gv3 i5 (fun ov8 => (laws_heldVectorS_su.k1g N L0 (laws_heldVectorS_su.k0 N K gv2 gv3)) (.exit 2) (laws_heldVectorS_su.sx1_0 av0 gv2 gv3 i5 ov8)) m k6 j7) := by
  intro m
  induction m with
  | zero => intros; rfl
  | succ m ih =>
    intro k6 j7
    refine (laws_heldVectorS_su.b1_eq N K L0 (fun s => xloop (xcode (E53 N) ents laws_heldVectorS_su.kp 1 N (cL (cK (cB (cK (cA (cB (cL (cK (cB (cA (cB laws_heldVectorS_su.bd))))))))))) 2) laws_heldVectorS_su.kp 1 2 m s (laws_heldVectorS_su.k1g N L0 (laws_heldVectorS_su.k0 N K gv2 gv3))) av0 gv2 gv3 i5 k6 j7).trans ?_
    simp only [ih]
    kernel_rfl

theorem laws_heldVectorS_su.l0_eq {ρ : Type} (N : Nat) (K : AV → Heap → Option ρ) (av0 : Nat) (gv2 : Nat) (gv3 : Nat → Int) :
    ∀ (m : Nat) (k4 : Int) (i5 : Int), xloop (xcode (E53 N) ents laws_heldVectorS_su.kp 1 N (cL (cK (cB (cA (cB laws_heldVectorS_su.bd))))) 0) laws_heldVectorS_su.kp 1 0 m (laws_heldVectorS_su.st0 av0 gv2 gv3 k4 i5) (laws_heldVectorS_su.k0 N K gv2 gv3) = (laws_heldVectorS_su.l0 N (fun d0 => K (.int .i64 (d0)) [⟨false, .flat gv2 (.ints .u8 gv3)⟩]) av0 gv3 (fun ov9 => (laws_heldVectorS_su.k0 N K gv2 gv3) (.exit 0) (laws_heldVectorS_su.sx0_0 gv2 gv3 ov9)) m k4 i5) := by
  intro m
  induction m with
  | zero => intros; rfl
  | succ m ih =>
    intro k4 i5
    refine (laws_heldVectorS_su.b0_eq N K (fun s => xloop (xcode (E53 N) ents laws_heldVectorS_su.kp 1 N (cL (cK (cB (cA (cB laws_heldVectorS_su.bd))))) 0) laws_heldVectorS_su.kp 1 0 m s (laws_heldVectorS_su.k0 N K gv2 gv3)) av0 gv2 gv3 k4 i5).trans ?_
    simp only [ih, laws_heldVectorS_su.l1_eq, laws_heldVectorS_su.a1_0_eq]
    kernel_rfl

theorem laws_heldVectorS_su.s_eq {ρ : Type} (N : Nat) (K : AV → Heap → Option ρ) (av0 : Nat) (k1 : Int) (gv2 : Nat) (gv3 : Nat → Int) :
    xbody (E53 N) ents laws_heldVectorS_su.kp N Go.Proofs.Try.f40 laws_heldVectorS_su.bd [.slice false 0 0 av0 .unk 8, .int .i64 (k1)] [⟨false, .flat gv2 (.ints .u8 gv3)⟩] K = (laws_heldVectorS_su.s N (fun d0 => K (.int .i64 (d0)) [⟨false, .flat gv2 (.ints .u8 gv3)⟩]) (fun k4 i5 => xloop (xcode (E53 N) ents laws_heldVectorS_su.kp 1 N (cL (cK (cB (cA (cB laws_heldVectorS_su.bd))))) 0) laws_heldVectorS_su.kp 1 0 N (laws_heldVectorS_su.st0 av0 gv2 gv3 k4 i5) (laws_heldVectorS_su.k0 N K gv2 gv3)) k1) := by kernel_rfl

theorem laws_heldVectorS_su.eq {ρ : Type} (N : Nat) (K : AV → Heap → Option ρ) (av0 : Nat) (k1 : Int) (gv2 : Nat) (gv3 : Nat → Int) :
    xbody (E53 N) ents laws_heldVectorS_su.kp N Go.Proofs.Try.f40 laws_heldVectorS_su.bd [.slice false 0 0 av0 .unk 8, .int .i64 (k1)] [⟨false, .flat gv2 (.ints .u8 gv3)⟩] K = (laws_heldVectorS_su N (fun d0 => K (.int .i64 (d0)) [⟨false, .flat gv2 (.ints .u8 gv3)⟩]) av0 k1 gv2 gv3) := by
  refine (laws_heldVectorS_su.s_eq N K av0 k1 gv2 gv3).trans ?_
  simp only [laws_heldVectorS_su.l0_eq, laws_heldVectorS_su.a0_0_eq]
  kernel_rfl

noncomputable def laws_heldVectorS_su.en (N : Nat) (ρ : Type) : List AV → Heap → (AV → Heap → Option ρ) → Option ρ
  | [.slice false 0 0 av0 .unk 8, .int .i64 (k1)], [⟨false, .flat gv2 (.ints .u8 gv3)⟩], K => (laws_heldVectorS_su N (fun d0 => K (.int .i64 (d0)) [⟨false, .flat gv2 (.ints .u8 gv3)⟩]) av0 k1 gv2 gv3)
  | _, _, _ => none

theorem laws_heldVectorS_su.en_ok (N : Nat) (hE : EnvOk (E53 N) ents) (ρ : Type) (args : List AV) (sh : Heap) (K : AV → Heap → Option ρ) (r : ρ) (h : laws_heldVectorS_su.en N ρ args sh K = some r) : ∃ v sh', K v sh' = some r ∧ FnOk (E53 N).P 40 args sh v sh' := by
  unfold laws_heldVectorS_su.en at h
  split at h
  · exact fn_ok hE (kp := laws_heldVectorS_su.kp) (N := N) Go.Proofs.Try.func40 (c := laws_heldVectorS_su.bd) (by kernel_rfl) ((laws_heldVectorS_su.eq N _ _ _ _ _).trans h)
  · cases h

noncomputable def E54 (N : Nat) : Env := (E53 N).add 40 (laws_heldVectorS_su.en N)

theorem E54_ok (N : Nat) : EnvOk (E54 N) ents := Env.add_ok (E53_ok N) (laws_heldVectorS_su.en_ok N (E53_ok N))

noncomputable def laws_FnExactGroupLikes.kp : Keeps := ⟨[], [], []⟩

noncomputable def laws_FnExactGroupLikes.bd : Code := bodyOf Go.Proofs.Try.f10

noncomputable def laws_FnExactGroupLikes.fin {ρ : Type} (N : Nat) (K : AV → Heap → Option ρ) : XE → St → Option ρ := finK (E54 N) laws_FnExactGroupLikes.kp.fins Go.Proofs.Try.f10 [] K

theorem laws_FnExactGroupLikes.eq {ρ : Type} (N : Nat) (K : AV → Heap → Option ρ) (aC0 : Nat → Int) (aC1 : Nat → Int) :
    xbody (E54 N) ents laws_FnExactGroupLikes.kp N Go.Proofs.Try.f10 laws_FnExactGroupLikes.bd [.agg [⟨.i64, 2, aC0⟩, ⟨.u8, 520, aC1⟩]] [] K = (laws_FnExactGroupLikes N (fun d0 => K (.bool (d0)) []) aC0 aC1) := by kernel_rfl

noncomputable def laws_FnExactGroupLikes.en (N : Nat) (ρ : Type) : List AV → Heap → (AV → Heap → Option ρ) → Option ρ
  | [.agg [⟨.i64, 2, aC0⟩, ⟨.u8, 520, aC1⟩]], [], K => (laws_FnExactGroupLikes N (fun d0 => K (.bool (d0)) []) aC0 aC1)
  | _, _, _ => none

theorem laws_FnExactGroupLikes.en_ok (N : Nat) (hE : EnvOk (E54 N) ents) (ρ : Type) (args : List AV) (sh : Heap) (K : AV → Heap → Option ρ) (r : ρ) (h : laws_FnExactGroupLikes.en N ρ args sh K = some r) : ∃ v sh', K v sh' = some r ∧ FnOk (E54 N).P 10 args sh v sh' := by
  unfold laws_FnExactGroupLikes.en at h
  split at h
  · exact fn_ok hE (kp := laws_FnExactGroupLikes.kp) (N := N) Go.Proofs.Try.func10 (c := laws_FnExactGroupLikes.bd) (by kernel_rfl) ((laws_FnExactGroupLikes.eq N _ _ _).trans h)
  · cases h

noncomputable def E55 (N : Nat) : Env := (E54 N).add 10 (laws_FnExactGroupLikes.en N)

theorem E55_ok (N : Nat) : EnvOk (E55 N) ents := Env.add_ok (E54_ok N) (laws_FnExactGroupLikes.en_ok N (E54_ok N))
end Go.Proofs.Ythecjjnieojjoaa.H
