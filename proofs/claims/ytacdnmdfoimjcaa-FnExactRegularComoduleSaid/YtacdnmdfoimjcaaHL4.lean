/- The program computes these functions. -/
import Derived.Test.YtacdnmdfoimjcaaHL3
namespace Go.Proofs.Ytacdnmdfoimjcaa.H
set_option linter.unusedVariables false
set_option linter.unusedSimpArgs false
open Go Go.RowKit Go.Proofs.Ytacdnmdfoimjcaa.Hx
set_option linter.unusedVariables false
set_option maxRecDepth 100000
noncomputable def impl_Hopf_product.kp : Keeps := ⟨[(0, [0, 4, 5, 6, 7, 8, 15, 16], 7), (2, [0, 4, 5, 6, 7, 8, 9, 15, 16, 24, 25], 7)], [(0, [6, 8], 7), (2, [0, 4, 5, 6, 7, 8, 15, 16], 7)]⟩

noncomputable def impl_Hopf_product.bd : Code := bodyOf Go.Proofs.Try.f45

noncomputable def impl_Hopf_product.fin {ρ : Type} (N : Nat) (K : AV → Heap → Option ρ) (g2 : Nat → Int) (g3 : Nat → Int) : XE → St → Option ρ := finK (E74 N) Go.Proofs.Try.f45 [⟨false, .ints .i64 2 g2⟩, ⟨false, .ints .u8 1104 g3⟩] K

noncomputable def impl_Hopf_product.k0 {ρ : Type} (N : Nat) (K : AV → Heap → Option ρ) (g2 : Nat → Int) (g3 : Nat → Int) : XE → St → Option ρ := (blockK impl_Hopf_product.kp 2 0 (seqK (xcode (E74 N) ents impl_Hopf_product.kp 2 N (cB (cB (cB impl_Hopf_product.bd))) 0) (impl_Hopf_product.fin N K g2 g3)))

theorem impl_Hopf_product.k0_mix {ρ : Type} (N : Nat) (K : AV → Heap → Option ρ) (g2 : Nat → Int) (g3 : Nat → Int) : mixK (impl_Hopf_product.fin N K g2 g3 .ret) (impl_Hopf_product.k0 N K g2 g3) = (impl_Hopf_product.k0 N K g2 g3) := by
  funext e s; cases e <;> rfl

noncomputable def impl_Hopf_product.st0 (v0 : Nat → Int) (w1 : Nat → Int) (g2 : Nat → Int) (g3 : Nat → Int) (r4 : Nat → Int) (x5 : Int) (g6 : Nat → Int) : St := ⟨sl 50 [(0, .sptr [(0, 2), (1, 1104)]), (4, .sptr [(2, 8)]), (5, .sptr [(3, 8)]), (6, .sptr [(4, 8)]), (7, .sptr [(5, 2)]), (8, .sptr [(6, 8)]), (15, .int .i64 ((r4 1))), (16, .int .i64 (x5))], [⟨false, .ints .i64 2 g2⟩, ⟨false, .ints .u8 1104 g3⟩, ⟨true, .ints .u8 8 v0⟩, ⟨true, .ints .u8 8 w1⟩, ⟨true, .ints .u8 8 (fun _ => 0)⟩, ⟨true, .ints .i64 2 r4⟩, ⟨true, .ints .u8 8 g6⟩]⟩

noncomputable def impl_Hopf_product.sx0_0 (v0 : Nat → Int) (w1 : Nat → Int) (g2 : Nat → Int) (g3 : Nat → Int) (r4 : Nat → Int) (o11 : Nat → Int) : St := ⟨sl 50 [(6, .sptr [(4, 8)]), (8, .sptr [(6, 8)])], [⟨false, .ints .i64 2 g2⟩, ⟨false, .ints .u8 1104 g3⟩, ⟨true, .ints .u8 8 v0⟩, ⟨true, .ints .u8 8 w1⟩, ⟨true, .ints .u8 8 (fun _ => 0)⟩, ⟨true, .ints .i64 2 r4⟩, ⟨true, .ints .u8 8 o11⟩]⟩

noncomputable def impl_Hopf_product.k1g {ρ : Type} (N : Nat) (L0 : St → Option ρ) (kv : XE → St → Option ρ) : XE → St → Option ρ := (blockK impl_Hopf_product.kp 2 2 (blockK impl_Hopf_product.kp 2 1 (seqK (xcode (E74 N) ents impl_Hopf_product.kp 2 N (cB (cB (cB (cL (cK (cB (cA (cB (cB impl_Hopf_product.bd))))))))) 0) (roundK impl_Hopf_product.kp 2 0 L0 kv))))

theorem impl_Hopf_product.k1_mix {ρ : Type} (N : Nat) (K : AV → Heap → Option ρ) (L0 : St → Option ρ) (g2 : Nat → Int) (g3 : Nat → Int) : mixK (impl_Hopf_product.fin N K g2 g3 .ret) (impl_Hopf_product.k1g N L0 (impl_Hopf_product.k0 N K g2 g3)) = (impl_Hopf_product.k1g N L0 (impl_Hopf_product.k0 N K g2 g3)) := by
  funext e s; cases e <;> rfl

noncomputable def impl_Hopf_product.st1 (v0 : Nat → Int) (w1 : Nat → Int) (g2 : Nat → Int) (g3 : Nat → Int) (r4 : Nat → Int) (x5 : Int) (x7 : Int) (g8 : Nat → Int) : St := ⟨sl 50 [(0, .sptr [(0, 2), (1, 1104)]), (4, .sptr [(2, 8)]), (5, .sptr [(3, 8)]), (6, .sptr [(4, 8)]), (7, .sptr [(5, 2)]), (8, .sptr [(6, 8)]), (9, .int .i64 (x5)), (15, .int .i64 ((r4 1))), (16, .int .i64 (x5)), (24, .int .i64 ((r4 1))), (25, .int .i64 (x7))], [⟨false, .ints .i64 2 g2⟩, ⟨false, .ints .u8 1104 g3⟩, ⟨true, .ints .u8 8 v0⟩, ⟨true, .ints .u8 8 w1⟩, ⟨true, .ints .u8 8 (fun _ => 0)⟩, ⟨true, .ints .i64 2 r4⟩, ⟨true, .ints .u8 8 g8⟩]⟩

noncomputable def impl_Hopf_product.sx1_0 (v0 : Nat → Int) (w1 : Nat → Int) (g2 : Nat → Int) (g3 : Nat → Int) (r4 : Nat → Int) (x5 : Int) (o10 : Nat → Int) : St := ⟨sl 50 [(0, .sptr [(0, 2), (1, 1104)]), (4, .sptr [(2, 8)]), (5, .sptr [(3, 8)]), (6, .sptr [(4, 8)]), (7, .sptr [(5, 2)]), (8, .sptr [(6, 8)]), (15, .int .i64 ((r4 1))), (16, .int .i64 (x5))], [⟨false, .ints .i64 2 g2⟩, ⟨false, .ints .u8 1104 g3⟩, ⟨true, .ints .u8 8 v0⟩, ⟨true, .ints .u8 8 w1⟩, ⟨true, .ints .u8 8 (fun _ => 0)⟩, ⟨true, .ints .i64 2 r4⟩, ⟨true, .ints .u8 8 o10⟩]⟩

theorem impl_Hopf_product.b1_gen {ρ : Type} (N : Nat) (K : AV → Heap → Option ρ) (L1 : St → Option ρ) (kv : XE → St → Option ρ) (v0 : Nat → Int) (w1 : Nat → Int) (g2 : Nat → Int) (g3 : Nat → Int) (r4 : Nat → Int) (x5 : Int) (x7 : Int) (g8 : Nat → Int) :
    xcode (E74 N) ents impl_Hopf_product.kp 2 N (cL (cK (cB (cB (cB (cK (cA (cB (cB (cL (cK (cB (cA (cB (cB impl_Hopf_product.bd))))))))))))))) 2 (impl_Hopf_product.st1 v0 w1 g2 g3 r4 x5 x7 g8) (roundK impl_Hopf_product.kp 2 2 L1 (mixK (impl_Hopf_product.fin N K g2 g3 .ret) kv)) = (impl_Hopf_product.b1 N (fun d0 => K (.agg [⟨.u8, 8, d0⟩]) [⟨false, .ints .i64 2 g2⟩, ⟨false, .ints .u8 1104 g3⟩]) (fun x7 g8 => L1 (impl_Hopf_product.st1 v0 w1 g2 g3 r4 x5 x7 g8)) (fun o10 => kv (.exit 2) (impl_Hopf_product.sx1_0 v0 w1 g2 g3 r4 x5 o10)) v0 w1 g3 r4 x5 x7 g8) := by kernel_rfl

theorem impl_Hopf_product.b1_eq {ρ : Type} (N : Nat) (K : AV → Heap → Option ρ) (L0 : St → Option ρ) (L1 : St → Option ρ) (v0 : Nat → Int) (w1 : Nat → Int) (g2 : Nat → Int) (g3 : Nat → Int) (r4 : Nat → Int) (x5 : Int) (x7 : Int) (g8 : Nat → Int) :
    xcode (E74 N) ents impl_Hopf_product.kp 2 N (cL (cK (cB (cB (cB (cK (cA (cB (cB (cL (cK (cB (cA (cB (cB impl_Hopf_product.bd))))))))))))))) 2 (impl_Hopf_product.st1 v0 w1 g2 g3 r4 x5 x7 g8) (roundK impl_Hopf_product.kp 2 2 L1 (impl_Hopf_product.k1g N L0 (impl_Hopf_product.k0 N K g2 g3))) = (impl_Hopf_product.b1 N (fun d0 => K (.agg [⟨.u8, 8, d0⟩]) [⟨false, .ints .i64 2 g2⟩, ⟨false, .ints .u8 1104 g3⟩]) (fun x7 g8 => L1 (impl_Hopf_product.st1 v0 w1 g2 g3 r4 x5 x7 g8)) (fun o10 => (impl_Hopf_product.k1g N L0 (impl_Hopf_product.k0 N K g2 g3)) (.exit 2) (impl_Hopf_product.sx1_0 v0 w1 g2 g3 r4 x5 o10)) v0 w1 g3 r4 x5 x7 g8) := by
  have h := impl_Hopf_product.b1_gen N K L1 (impl_Hopf_product.k1g N L0 (impl_Hopf_product.k0 N K g2 g3)) v0 w1 g2 g3 r4 x5 x7 g8
  rw [impl_Hopf_product.k1_mix] at h
  exact h

theorem impl_Hopf_product.a1_0_gen {ρ : Type} (N : Nat) (K : AV → Heap → Option ρ) (L0 : St → Option ρ) (kv : XE → St → Option ρ) (v0 : Nat → Int) (w1 : Nat → Int) (g2 : Nat → Int) (g3 : Nat → Int) (r4 : Nat → Int) (x5 : Int) (o10 : Nat → Int) :
    (impl_Hopf_product.k1g N L0 (mixK (impl_Hopf_product.fin N K g2 g3 .ret) kv)) (.exit 2) (impl_Hopf_product.sx1_0 v0 w1 g2 g3 r4 x5 o10) = (impl_Hopf_product.a1_0 N (fun d0 => K (.agg [⟨.u8, 8, d0⟩]) [⟨false, .ints .i64 2 g2⟩, ⟨false, .ints .u8 1104 g3⟩]) (fun x5 g6 => L0 (impl_Hopf_product.st0 v0 w1 g2 g3 r4 x5 g6)) (fun o11 => kv (.exit 0) (impl_Hopf_product.sx0_0 v0 w1 g2 g3 r4 o11)) x5 o10) := by kernel_rfl

theorem impl_Hopf_product.a1_0_eq {ρ : Type} (N : Nat) (K : AV → Heap → Option ρ) (L0 : St → Option ρ) (v0 : Nat → Int) (w1 : Nat → Int) (g2 : Nat → Int) (g3 : Nat → Int) (r4 : Nat → Int) (x5 : Int) (o10 : Nat → Int) :
    (impl_Hopf_product.k1g N L0 (impl_Hopf_product.k0 N K g2 g3)) (.exit 2) (impl_Hopf_product.sx1_0 v0 w1 g2 g3 r4 x5 o10) = (impl_Hopf_product.a1_0 N (fun d0 => K (.agg [⟨.u8, 8, d0⟩]) [⟨false, .ints .i64 2 g2⟩, ⟨false, .ints .u8 1104 g3⟩]) (fun x5 g6 => L0 (impl_Hopf_product.st0 v0 w1 g2 g3 r4 x5 g6)) (fun o11 => (impl_Hopf_product.k0 N K g2 g3) (.exit 0) (impl_Hopf_product.sx0_0 v0 w1 g2 g3 r4 o11)) x5 o10) := by
  have h := impl_Hopf_product.a1_0_gen N K L0 (impl_Hopf_product.k0 N K g2 g3) v0 w1 g2 g3 r4 x5 o10
  rw [impl_Hopf_product.k0_mix] at h
  exact h

theorem impl_Hopf_product.b0_gen {ρ : Type} (N : Nat) (K : AV → Heap → Option ρ) (L0 : St → Option ρ) (kv : XE → St → Option ρ) (v0 : Nat → Int) (w1 : Nat → Int) (g2 : Nat → Int) (g3 : Nat → Int) (r4 : Nat → Int) (x5 : Int) (g6 : Nat → Int) :
    xcode (E74 N) ents impl_Hopf_product.kp 2 N (cL (cK (cB (cA (cB (cB impl_Hopf_product.bd)))))) 0 (impl_Hopf_product.st0 v0 w1 g2 g3 r4 x5 g6) (roundK impl_Hopf_product.kp 2 0 L0 (mixK (impl_Hopf_product.fin N K g2 g3 .ret) kv)) = (impl_Hopf_product.b0 N (fun d0 => K (.agg [⟨.u8, 8, d0⟩]) [⟨false, .ints .i64 2 g2⟩, ⟨false, .ints .u8 1104 g3⟩]) (fun x7 g8 => xloop (xcode (E74 N) ents impl_Hopf_product.kp 2 N (cL (cK (cB (cB (cB (cK (cA (cB (cB (cL (cK (cB (cA (cB (cB impl_Hopf_product.bd))))))))))))))) 2) impl_Hopf_product.kp 2 2 N (impl_Hopf_product.st1 v0 w1 g2 g3 r4 x5 x7 g8) (impl_Hopf_product.k1g N L0 (mixK (impl_Hopf_product.fin N K g2 g3 .ret) kv))) (fun x5 g6 => L0 (impl_Hopf_product.st0 v0 w1 g2 g3 r4 x5 g6)) (fun o11 => kv (.exit 0) (impl_Hopf_product.sx0_0 v0 w1 g2 g3 r4 o11)) v0 r4 x5 g6) := by kernel_rfl

theorem impl_Hopf_product.b0_eq {ρ : Type} (N : Nat) (K : AV → Heap → Option ρ) (L0 : St → Option ρ) (v0 : Nat → Int) (w1 : Nat → Int) (g2 : Nat → Int) (g3 : Nat → Int) (r4 : Nat → Int) (x5 : Int) (g6 : Nat → Int) :
    xcode (E74 N) ents impl_Hopf_product.kp 2 N (cL (cK (cB (cA (cB (cB impl_Hopf_product.bd)))))) 0 (impl_Hopf_product.st0 v0 w1 g2 g3 r4 x5 g6) (roundK impl_Hopf_product.kp 2 0 L0 (impl_Hopf_product.k0 N K g2 g3)) = (impl_Hopf_product.b0 N (fun d0 => K (.agg [⟨.u8, 8, d0⟩]) [⟨false, .ints .i64 2 g2⟩, ⟨false, .ints .u8 1104 g3⟩]) (fun x7 g8 => xloop (xcode (E74 N) ents impl_Hopf_product.kp 2 N (cL (cK (cB (cB (cB (cK (cA (cB (cB (cL (cK (cB (cA (cB (cB impl_Hopf_product.bd))))))))))))))) 2) impl_Hopf_product.kp 2 2 N (impl_Hopf_product.st1 v0 w1 g2 g3 r4 x5 x7 g8) (impl_Hopf_product.k1g N L0 (impl_Hopf_product.k0 N K g2 g3))) (fun x5 g6 => L0 (impl_Hopf_product.st0 v0 w1 g2 g3 r4 x5 g6)) (fun o11 => (impl_Hopf_product.k0 N K g2 g3) (.exit 0) (impl_Hopf_product.sx0_0 v0 w1 g2 g3 r4 o11)) v0 r4 x5 g6) := by
  have h := impl_Hopf_product.b0_gen N K L0 (impl_Hopf_product.k0 N K g2 g3) v0 w1 g2 g3 r4 x5 g6
  rw [impl_Hopf_product.k0_mix] at h
  exact h

theorem impl_Hopf_product.a0_0_eq {ρ : Type} (N : Nat) (K : AV → Heap → Option ρ) (v0 : Nat → Int) (w1 : Nat → Int) (g2 : Nat → Int) (g3 : Nat → Int) (r4 : Nat → Int) (o11 : Nat → Int) :
    (impl_Hopf_product.k0 N K g2 g3) (.exit 0) (impl_Hopf_product.sx0_0 v0 w1 g2 g3 r4 o11) = (impl_Hopf_product.a0_0 N (fun d0 => K (.agg [⟨.u8, 8, d0⟩]) [⟨false, .ints .i64 2 g2⟩, ⟨false, .ints .u8 1104 g3⟩]) o11) := by kernel_rfl

theorem impl_Hopf_product.l1_eq {ρ : Type} (N : Nat) (K : AV → Heap → Option ρ) (L0 : St → Option ρ) (v0 : Nat → Int) (w1 : Nat → Int) (g2 : Nat → Int) (g3 : Nat → Int) (r4 : Nat → Int) (x5 : Int) :
    ∀ (m : Nat) (x7 : Int) (g8 : Nat → Int), xloop (xcode (E74 N) ents impl_Hopf_product.kp 2 N (cL (cK (cB (cB (cB (cK (cA (cB (cB (cL (cK (cB (cA (cB (cB impl_Hopf_product.bd))))))))))))))) 2) impl_Hopf_product.kp 2 2 m (impl_Hopf_product.st1 v0 w1 g2 g3 r4 x5 x7 g8) (impl_Hopf_product.k1g N L0 (impl_Hopf_product.k0 N K g2 g3)) = (impl_Hopf_product.l1 N (fun d0 => K (.agg [⟨.u8, 8, d0⟩]) [⟨false, .ints .i64 2 g2⟩, ⟨false, .ints .u8 1104 g3⟩]) v0 w1 g3 r4 x5 (fun o10 => (impl_Hopf_product.k1g N L0 (impl_Hopf_product.k0 N K g2 g3)) (.exit 2) (impl_Hopf_product.sx1_0 v0 w1 g2 g3 r4 x5 o10)) m x7 g8) := by
  intro m
  induction m with
  | zero => intros; rfl
  | succ m ih =>
    intro x7 g8
    refine (impl_Hopf_product.b1_eq N K L0 (fun s => xloop (xcode (E74 N) ents impl_Hopf_product.kp 2 N (cL (cK (cB (cB (cB (cK (cA (cB (cB (cL (cK (cB (cA (cB (cB impl_Hopf_product.bd))))))))))))))) 2) impl_Hopf_product.kp 2 2 m s (impl_Hopf_product.k1g N L0 (impl_Hopf_product.k0 N K g2 g3))) v0 w1 g2 g3 r4 x5 x7 g8).trans ?_
    simp only [ih]
    kernel_rfl

theorem impl_Hopf_product.l0_eq {ρ : Type} (N : Nat) (K : AV → Heap → Option ρ) (v0 : Nat → Int) (w1 : Nat → Int) (g2 : Nat → Int) (g3 : Nat → Int) (r4 : Nat → Int) :
    ∀ (m : Nat) (x5 : Int) (g6 : Nat → Int), xloop (xcode (E74 N) ents impl_Hopf_product.kp 2 N (cL (cK (cB (cA (cB (cB impl_Hopf_product.bd)))))) 0) impl_Hopf_product.kp 2 0 m (impl_Hopf_product.st0 v0 w1 g2 g3 r4 x5 g6) (impl_Hopf_product.k0 N K g2 g3) = (impl_Hopf_product.l0 N (fun d0 => K (.agg [⟨.u8, 8, d0⟩]) [⟨false, .ints .i64 2 g2⟩, ⟨false, .ints .u8 1104 g3⟩]) v0 w1 g3 r4 (fun o11 => (impl_Hopf_product.k0 N K g2 g3) (.exit 0) (impl_Hopf_product.sx0_0 v0 w1 g2 g3 r4 o11)) m x5 g6) := by
  intro m
  induction m with
  | zero => intros; rfl
  | succ m ih =>
    intro x5 g6
    refine (impl_Hopf_product.b0_eq N K (fun s => xloop (xcode (E74 N) ents impl_Hopf_product.kp 2 N (cL (cK (cB (cA (cB (cB impl_Hopf_product.bd)))))) 0) impl_Hopf_product.kp 2 0 m s (impl_Hopf_product.k0 N K g2 g3)) v0 w1 g2 g3 r4 x5 g6).trans ?_
    simp only [ih, impl_Hopf_product.l1_eq, impl_Hopf_product.a1_0_eq]
    kernel_rfl

theorem impl_Hopf_product.s_eq {ρ : Type} (N : Nat) (K : AV → Heap → Option ρ) (v0 : Nat → Int) (w1 : Nat → Int) (g2 : Nat → Int) (g3 : Nat → Int) :
    xbody (E74 N) ents impl_Hopf_product.kp N Go.Proofs.Try.f45 impl_Hopf_product.bd [.sptr [(0, 2), (1, 1104)], .agg [⟨.u8, 8, v0⟩], .agg [⟨.u8, 8, w1⟩]] [⟨false, .ints .i64 2 g2⟩, ⟨false, .ints .u8 1104 g3⟩] K = (impl_Hopf_product.s N (fun d0 => K (.agg [⟨.u8, 8, d0⟩]) [⟨false, .ints .i64 2 g2⟩, ⟨false, .ints .u8 1104 g3⟩]) (fun r4 x5 g6 => xloop (xcode (E74 N) ents impl_Hopf_product.kp 2 N (cL (cK (cB (cA (cB (cB impl_Hopf_product.bd)))))) 0) impl_Hopf_product.kp 2 0 N (impl_Hopf_product.st0 v0 w1 g2 g3 r4 x5 g6) (impl_Hopf_product.k0 N K g2 g3)) g2 g3) := by kernel_rfl

theorem impl_Hopf_product.eq {ρ : Type} (N : Nat) (K : AV → Heap → Option ρ) (v0 : Nat → Int) (w1 : Nat → Int) (g2 : Nat → Int) (g3 : Nat → Int) :
    xbody (E74 N) ents impl_Hopf_product.kp N Go.Proofs.Try.f45 impl_Hopf_product.bd [.sptr [(0, 2), (1, 1104)], .agg [⟨.u8, 8, v0⟩], .agg [⟨.u8, 8, w1⟩]] [⟨false, .ints .i64 2 g2⟩, ⟨false, .ints .u8 1104 g3⟩] K = (impl_Hopf_product N (fun d0 => K (.agg [⟨.u8, 8, d0⟩]) [⟨false, .ints .i64 2 g2⟩, ⟨false, .ints .u8 1104 g3⟩]) v0 w1 g2 g3) := by
  refine (impl_Hopf_product.s_eq N K v0 w1 g2 g3).trans ?_
  simp only [impl_Hopf_product.l0_eq, impl_Hopf_product.a0_0_eq]
  kernel_rfl

noncomputable def impl_Hopf_product.en (N : Nat) (ρ : Type) : List AV → Heap → (AV → Heap → Option ρ) → Option ρ
  | [.sptr [(0, 2), (1, 1104)], .agg [⟨.u8, 8, v0⟩], .agg [⟨.u8, 8, w1⟩]], [⟨false, .ints .i64 2 g2⟩, ⟨false, .ints .u8 1104 g3⟩], K => (impl_Hopf_product N (fun d0 => K (.agg [⟨.u8, 8, d0⟩]) [⟨false, .ints .i64 2 g2⟩, ⟨false, .ints .u8 1104 g3⟩]) v0 w1 g2 g3)
  | _, _, _ => none

theorem impl_Hopf_product.en_ok (N : Nat) (hE : EnvOk (E74 N) ents) (ρ : Type) (args : List AV) (sh : Heap) (K : AV → Heap → Option ρ) (r : ρ) (h : impl_Hopf_product.en N ρ args sh K = some r) : ∃ v sh', K v sh' = some r ∧ FnOk (E74 N).P 45 args sh v sh' := by
  unfold impl_Hopf_product.en at h
  split at h
  · exact fn_ok hE (kp := impl_Hopf_product.kp) (N := N) Go.Proofs.Try.func45 (c := impl_Hopf_product.bd) (by kernel_rfl) ((impl_Hopf_product.eq N _ _ _ _ _).trans h)
  · cases h

noncomputable def E75 (N : Nat) : Env := (E74 N).add 45 (impl_Hopf_product.en N)

theorem E75_ok (N : Nat) : EnvOk (E75 N) ents := Env.add_ok (E74_ok N) (impl_Hopf_product.en_ok N (E74_ok N))

noncomputable def impl_Hopf_folded_c1.kp : Keeps := ⟨[], []⟩

noncomputable def impl_Hopf_folded_c1.bd : Code := bodyOf Go.Proofs.Try.f106

noncomputable def impl_Hopf_folded_c1.fin {ρ : Type} (N : Nat) (K : AV → Heap → Option ρ) (g3 : Bool) (g4 : Nat → Int) (g5 : Nat → Int) (g6 : Nat → Int) (g7 : Nat → Int) : XE → St → Option ρ := finK (E75 N) Go.Proofs.Try.f106 [⟨false, .avs [.bool (g3)]⟩, ⟨false, .ints .i64 2 g4⟩, ⟨true, .ints .u8 8 g5⟩, ⟨false, .avs [.sptr [(4, 2), (5, 1104)]]⟩, ⟨false, .ints .i64 2 g6⟩, ⟨false, .ints .u8 1104 g7⟩] K

theorem impl_Hopf_folded_c1.eq {ρ : Type} (N : Nat) (K : AV → Heap → Option ρ) (j0 : Int) (k1 : Int) (x2 : Int) (g3 : Bool) (g4 : Nat → Int) (g5 : Nat → Int) (g6 : Nat → Int) (g7 : Nat → Int) :
    xbody (E75 N) ents impl_Hopf_folded_c1.kp N Go.Proofs.Try.f106 impl_Hopf_folded_c1.bd [.int .i64 (j0), .int .i64 (k1), .int .i64 (x2), .sptr [(0, 1)], .sptr [(1, 2)], .sptr [(2, 8)], .sptr [(3, 1)]] [⟨false, .avs [.bool (g3)]⟩, ⟨false, .ints .i64 2 g4⟩, ⟨true, .ints .u8 8 g5⟩, ⟨false, .avs [.sptr [(4, 2), (5, 1104)]]⟩, ⟨false, .ints .i64 2 g6⟩, ⟨false, .ints .u8 1104 g7⟩] K = (impl_Hopf_folded_c1 N (fun d0 => K (.tup []) [⟨false, .avs [.bool (g3)]⟩, ⟨false, .ints .i64 2 g4⟩, ⟨true, .ints .u8 8 d0⟩, ⟨false, .avs [.sptr [(4, 2), (5, 1104)]]⟩, ⟨false, .ints .i64 2 g6⟩, ⟨false, .ints .u8 1104 g7⟩]) j0 k1 x2 g3 g4 g5 g6 g7) := by kernel_rfl

noncomputable def impl_Hopf_folded_c1.en (N : Nat) (ρ : Type) : List AV → Heap → (AV → Heap → Option ρ) → Option ρ
  | [.int .i64 (j0), .int .i64 (k1), .int .i64 (x2), .sptr [(0, 1)], .sptr [(1, 2)], .sptr [(2, 8)], .sptr [(3, 1)]], [⟨false, .avs [.bool (g3)]⟩, ⟨false, .ints .i64 2 g4⟩, ⟨true, .ints .u8 8 g5⟩, ⟨false, .avs [.sptr [(4, 2), (5, 1104)]]⟩, ⟨false, .ints .i64 2 g6⟩, ⟨false, .ints .u8 1104 g7⟩], K => (impl_Hopf_folded_c1 N (fun d0 => K (.tup []) [⟨false, .avs [.bool (g3)]⟩, ⟨false, .ints .i64 2 g4⟩, ⟨true, .ints .u8 8 d0⟩, ⟨false, .avs [.sptr [(4, 2), (5, 1104)]]⟩, ⟨false, .ints .i64 2 g6⟩, ⟨false, .ints .u8 1104 g7⟩]) j0 k1 x2 g3 g4 g5 g6 g7)
  | _, _, _ => none

theorem impl_Hopf_folded_c1.en_ok (N : Nat) (hE : EnvOk (E75 N) ents) (ρ : Type) (args : List AV) (sh : Heap) (K : AV → Heap → Option ρ) (r : ρ) (h : impl_Hopf_folded_c1.en N ρ args sh K = some r) : ∃ v sh', K v sh' = some r ∧ FnOk (E75 N).P 106 args sh v sh' := by
  unfold impl_Hopf_folded_c1.en at h
  split at h
  · exact fn_ok hE (kp := impl_Hopf_folded_c1.kp) (N := N) Go.Proofs.Try.func106 (c := impl_Hopf_folded_c1.bd) (by kernel_rfl) ((impl_Hopf_folded_c1.eq N _ _ _ _ _ _ _ _ _).trans h)
  · cases h

noncomputable def E76 (N : Nat) : Env := (E75 N).add 106 (impl_Hopf_folded_c1.en N)

theorem E76_ok (N : Nat) : EnvOk (E76 N) ents := Env.add_ok (E75_ok N) (impl_Hopf_folded_c1.en_ok N (E75_ok N))

noncomputable def impl_pairs_f_v3.kp : Keeps := ⟨[(0, [0, 1, 7], 7), (2, [0, 1, 4, 7, 14, 15], 7)], [(0, [], 7), (2, [0, 1, 7], 7)]⟩

noncomputable def impl_pairs_f_v3.bd : Code := bodyOf Go.Proofs.Try.f103

noncomputable def impl_pairs_f_v3.fin {ρ : Type} (N : Nat) (K : AV → Heap → Option ρ) (g0 : Nat → Int) (g1 : Bool) (g2 : Nat → Int) (g3 : Nat → Int) (g4 : Nat → Int) (g5 : Nat → Int) : XE → St → Option ρ := finK (E76 N) Go.Proofs.Try.f103 [⟨false, .ints .u8 64 g0⟩, ⟨true, .avs [.bool (g1)]⟩, ⟨true, .ints .i64 2 g2⟩, ⟨true, .ints .u8 8 g3⟩, ⟨true, .avs [.sptr [(5, 2), (6, 1104)]]⟩, ⟨false, .ints .i64 2 g4⟩, ⟨false, .ints .u8 1104 g5⟩] K

noncomputable def impl_pairs_f_v3.k0 {ρ : Type} (N : Nat) (K : AV → Heap → Option ρ) (g0 : Nat → Int) (g1 : Bool) (g2 : Nat → Int) (g3 : Nat → Int) (g4 : Nat → Int) (g5 : Nat → Int) : XE → St → Option ρ := (blockK impl_pairs_f_v3.kp 7 0 (impl_pairs_f_v3.fin N K g0 g1 g2 g3 g4 g5))

theorem impl_pairs_f_v3.k0_mix {ρ : Type} (N : Nat) (K : AV → Heap → Option ρ) (g0 : Nat → Int) (g1 : Bool) (g2 : Nat → Int) (g3 : Nat → Int) (g4 : Nat → Int) (g5 : Nat → Int) : mixK (impl_pairs_f_v3.fin N K g0 g1 g2 g3 g4 g5 .ret) (impl_pairs_f_v3.k0 N K g0 g1 g2 g3 g4 g5) = (impl_pairs_f_v3.k0 N K g0 g1 g2 g3 g4 g5) := by
  funext e s; cases e <;> rfl

noncomputable def impl_pairs_f_v3.st0 (g0 : Nat → Int) (g1 : Bool) (g2 : Nat → Int) (g4 : Nat → Int) (g5 : Nat → Int) (x6 : Int) (g7 : Nat → Int) : St := ⟨sl 29 [(0, .sptr [(0, 64)]), (1, .fn 106 0 [[(1, 1)], [(2, 2)], [(3, 8)], [(4, 1)]]), (7, .int .i64 (x6))], [⟨false, .ints .u8 64 g0⟩, ⟨true, .avs [.bool (g1)]⟩, ⟨true, .ints .i64 2 g2⟩, ⟨true, .ints .u8 8 g7⟩, ⟨true, .avs [.sptr [(5, 2), (6, 1104)]]⟩, ⟨false, .ints .i64 2 g4⟩, ⟨false, .ints .u8 1104 g5⟩]⟩

noncomputable def impl_pairs_f_v3.sx0_0 (g0 : Nat → Int) (g1 : Bool) (g2 : Nat → Int) (g4 : Nat → Int) (g5 : Nat → Int) (o12 : Nat → Int) : St := ⟨sl 29 [], [⟨false, .ints .u8 64 g0⟩, ⟨true, .avs [.bool (g1)]⟩, ⟨true, .ints .i64 2 g2⟩, ⟨true, .ints .u8 8 o12⟩, ⟨true, .avs [.sptr [(5, 2), (6, 1104)]]⟩, ⟨false, .ints .i64 2 g4⟩, ⟨false, .ints .u8 1104 g5⟩]⟩

noncomputable def impl_pairs_f_v3.k1g {ρ : Type} (N : Nat) (L0 : St → Option ρ) (kv : XE → St → Option ρ) : XE → St → Option ρ := (blockK impl_pairs_f_v3.kp 7 2 (blockK impl_pairs_f_v3.kp 7 1 (seqK (xcode (E76 N) ents impl_pairs_f_v3.kp 7 N (cB (cB (cB (cL (cK (cB impl_pairs_f_v3.bd)))))) 0) (roundK impl_pairs_f_v3.kp 7 0 L0 kv))))

theorem impl_pairs_f_v3.k1_mix {ρ : Type} (N : Nat) (K : AV → Heap → Option ρ) (L0 : St → Option ρ) (g0 : Nat → Int) (g1 : Bool) (g2 : Nat → Int) (g3 : Nat → Int) (g4 : Nat → Int) (g5 : Nat → Int) : mixK (impl_pairs_f_v3.fin N K g0 g1 g2 g3 g4 g5 .ret) (impl_pairs_f_v3.k1g N L0 (impl_pairs_f_v3.k0 N K g0 g1 g2 g3 g4 g5)) = (impl_pairs_f_v3.k1g N L0 (impl_pairs_f_v3.k0 N K g0 g1 g2 g3 g4 g5)) := by
  funext e s; cases e <;> rfl

noncomputable def impl_pairs_f_v3.st1 (g0 : Nat → Int) (g1 : Bool) (g2 : Nat → Int) (g4 : Nat → Int) (g5 : Nat → Int) (x6 : Int) (x8 : Int) (g9 : Nat → Int) : St := ⟨sl 29 [(0, .sptr [(0, 64)]), (1, .fn 106 0 [[(1, 1)], [(2, 2)], [(3, 8)], [(4, 1)]]), (4, .int .i64 (x6)), (7, .int .i64 (x6)), (14, .agg [⟨.u8, 8, (fun z => (g0 ((x6.toNat * 8) + z)))⟩]), (15, .int .i64 (x8))], [⟨false, .ints .u8 64 g0⟩, ⟨true, .avs [.bool (g1)]⟩, ⟨true, .ints .i64 2 g2⟩, ⟨true, .ints .u8 8 g9⟩, ⟨true, .avs [.sptr [(5, 2), (6, 1104)]]⟩, ⟨false, .ints .i64 2 g4⟩, ⟨false, .ints .u8 1104 g5⟩]⟩

noncomputable def impl_pairs_f_v3.sx1_0 (g0 : Nat → Int) (g1 : Bool) (g2 : Nat → Int) (g4 : Nat → Int) (g5 : Nat → Int) (x6 : Int) (o11 : Nat → Int) : St := ⟨sl 29 [(0, .sptr [(0, 64)]), (1, .fn 106 0 [[(1, 1)], [(2, 2)], [(3, 8)], [(4, 1)]]), (7, .int .i64 (x6))], [⟨false, .ints .u8 64 g0⟩, ⟨true, .avs [.bool (g1)]⟩, ⟨true, .ints .i64 2 g2⟩, ⟨true, .ints .u8 8 o11⟩, ⟨true, .avs [.sptr [(5, 2), (6, 1104)]]⟩, ⟨false, .ints .i64 2 g4⟩, ⟨false, .ints .u8 1104 g5⟩]⟩

theorem impl_pairs_f_v3.b1_gen {ρ : Type} (N : Nat) (K : AV → Heap → Option ρ) (L1 : St → Option ρ) (kv : XE → St → Option ρ) (g0 : Nat → Int) (g1 : Bool) (g2 : Nat → Int) (g3 : Nat → Int) (g4 : Nat → Int) (g5 : Nat → Int) (x6 : Int) (x8 : Int) (g9 : Nat → Int) :
    xcode (E76 N) ents impl_pairs_f_v3.kp 7 N (cL (cK (cB (cB (cK (cA (cB (cB (cL (cK (cB impl_pairs_f_v3.bd))))))))))) 2 (impl_pairs_f_v3.st1 g0 g1 g2 g4 g5 x6 x8 g9) (roundK impl_pairs_f_v3.kp 7 2 L1 (mixK (impl_pairs_f_v3.fin N K g0 g1 g2 g3 g4 g5 .ret) kv)) = (impl_pairs_f_v3.b1 N (fun d0 d1 d2 => K (.tup []) [⟨false, .ints .u8 64 g0⟩, ⟨true, .avs [.bool (d0)]⟩, ⟨true, .ints .i64 2 d1⟩, ⟨true, .ints .u8 8 d2⟩, ⟨true, .avs [.sptr [(5, 2), (6, 1104)]]⟩, ⟨false, .ints .i64 2 g4⟩, ⟨false, .ints .u8 1104 g5⟩]) (fun x8 g9 => L1 (impl_pairs_f_v3.st1 g0 g1 g2 g4 g5 x6 x8 g9)) (fun o11 => kv (.exit 2) (impl_pairs_f_v3.sx1_0 g0 g1 g2 g4 g5 x6 o11)) g0 g1 g2 g4 g5 x6 x8 g9) := by kernel_rfl

theorem impl_pairs_f_v3.b1_eq {ρ : Type} (N : Nat) (K : AV → Heap → Option ρ) (L0 : St → Option ρ) (L1 : St → Option ρ) (g0 : Nat → Int) (g1 : Bool) (g2 : Nat → Int) (g3 : Nat → Int) (g4 : Nat → Int) (g5 : Nat → Int) (x6 : Int) (x8 : Int) (g9 : Nat → Int) :
    xcode (E76 N) ents impl_pairs_f_v3.kp 7 N (cL (cK (cB (cB (cK (cA (cB (cB (cL (cK (cB impl_pairs_f_v3.bd))))))))))) 2 (impl_pairs_f_v3.st1 g0 g1 g2 g4 g5 x6 x8 g9) (roundK impl_pairs_f_v3.kp 7 2 L1 (impl_pairs_f_v3.k1g N L0 (impl_pairs_f_v3.k0 N K g0 g1 g2 g3 g4 g5))) = (impl_pairs_f_v3.b1 N (fun d0 d1 d2 => K (.tup []) [⟨false, .ints .u8 64 g0⟩, ⟨true, .avs [.bool (d0)]⟩, ⟨true, .ints .i64 2 d1⟩, ⟨true, .ints .u8 8 d2⟩, ⟨true, .avs [.sptr [(5, 2), (6, 1104)]]⟩, ⟨false, .ints .i64 2 g4⟩, ⟨false, .ints .u8 1104 g5⟩]) (fun x8 g9 => L1 (impl_pairs_f_v3.st1 g0 g1 g2 g4 g5 x6 x8 g9)) (fun o11 => (impl_pairs_f_v3.k1g N L0 (impl_pairs_f_v3.k0 N K g0 g1 g2 g3 g4 g5)) (.exit 2) (impl_pairs_f_v3.sx1_0 g0 g1 g2 g4 g5 x6 o11)) g0 g1 g2 g4 g5 x6 x8 g9) := by
  have h := impl_pairs_f_v3.b1_gen N K L1 (impl_pairs_f_v3.k1g N L0 (impl_pairs_f_v3.k0 N K g0 g1 g2 g3 g4 g5)) g0 g1 g2 g3 g4 g5 x6 x8 g9
  rw [impl_pairs_f_v3.k1_mix] at h
  exact h

theorem impl_pairs_f_v3.a1_0_gen {ρ : Type} (N : Nat) (K : AV → Heap → Option ρ) (L0 : St → Option ρ) (kv : XE → St → Option ρ) (g0 : Nat → Int) (g1 : Bool) (g2 : Nat → Int) (g3 : Nat → Int) (g4 : Nat → Int) (g5 : Nat → Int) (x6 : Int) (o11 : Nat → Int) :
    (impl_pairs_f_v3.k1g N L0 (mixK (impl_pairs_f_v3.fin N K g0 g1 g2 g3 g4 g5 .ret) kv)) (.exit 2) (impl_pairs_f_v3.sx1_0 g0 g1 g2 g4 g5 x6 o11) = (impl_pairs_f_v3.a1_0 N (fun d0 d1 d2 => K (.tup []) [⟨false, .ints .u8 64 g0⟩, ⟨true, .avs [.bool (d0)]⟩, ⟨true, .ints .i64 2 d1⟩, ⟨true, .ints .u8 8 d2⟩, ⟨true, .avs [.sptr [(5, 2), (6, 1104)]]⟩, ⟨false, .ints .i64 2 g4⟩, ⟨false, .ints .u8 1104 g5⟩]) (fun x6 g7 => L0 (impl_pairs_f_v3.st0 g0 g1 g2 g4 g5 x6 g7)) (fun o12 => kv (.exit 0) (impl_pairs_f_v3.sx0_0 g0 g1 g2 g4 g5 o12)) x6 o11) := by kernel_rfl

theorem impl_pairs_f_v3.a1_0_eq {ρ : Type} (N : Nat) (K : AV → Heap → Option ρ) (L0 : St → Option ρ) (g0 : Nat → Int) (g1 : Bool) (g2 : Nat → Int) (g3 : Nat → Int) (g4 : Nat → Int) (g5 : Nat → Int) (x6 : Int) (o11 : Nat → Int) :
    (impl_pairs_f_v3.k1g N L0 (impl_pairs_f_v3.k0 N K g0 g1 g2 g3 g4 g5)) (.exit 2) (impl_pairs_f_v3.sx1_0 g0 g1 g2 g4 g5 x6 o11) = (impl_pairs_f_v3.a1_0 N (fun d0 d1 d2 => K (.tup []) [⟨false, .ints .u8 64 g0⟩, ⟨true, .avs [.bool (d0)]⟩, ⟨true, .ints .i64 2 d1⟩, ⟨true, .ints .u8 8 d2⟩, ⟨true, .avs [.sptr [(5, 2), (6, 1104)]]⟩, ⟨false, .ints .i64 2 g4⟩, ⟨false, .ints .u8 1104 g5⟩]) (fun x6 g7 => L0 (impl_pairs_f_v3.st0 g0 g1 g2 g4 g5 x6 g7)) (fun o12 => (impl_pairs_f_v3.k0 N K g0 g1 g2 g3 g4 g5) (.exit 0) (impl_pairs_f_v3.sx0_0 g0 g1 g2 g4 g5 o12)) x6 o11) := by
  have h := impl_pairs_f_v3.a1_0_gen N K L0 (impl_pairs_f_v3.k0 N K g0 g1 g2 g3 g4 g5) g0 g1 g2 g3 g4 g5 x6 o11
  rw [impl_pairs_f_v3.k0_mix] at h
  exact h

theorem impl_pairs_f_v3.b0_gen {ρ : Type} (N : Nat) (K : AV → Heap → Option ρ) (L0 : St → Option ρ) (kv : XE → St → Option ρ) (g0 : Nat → Int) (g1 : Bool) (g2 : Nat → Int) (g3 : Nat → Int) (g4 : Nat → Int) (g5 : Nat → Int) (x6 : Int) (g7 : Nat → Int) :
    xcode (E76 N) ents impl_pairs_f_v3.kp 7 N (cL (cK (cB impl_pairs_f_v3.bd))) 0 (impl_pairs_f_v3.st0 g0 g1 g2 g4 g5 x6 g7) (roundK impl_pairs_f_v3.kp 7 0 L0 (mixK (impl_pairs_f_v3.fin N K g0 g1 g2 g3 g4 g5 .ret) kv)) = (impl_pairs_f_v3.b0 N (fun d0 d1 d2 => K (.tup []) [⟨false, .ints .u8 64 g0⟩, ⟨true, .avs [.bool (d0)]⟩, ⟨true, .ints .i64 2 d1⟩, ⟨true, .ints .u8 8 d2⟩, ⟨true, .avs [.sptr [(5, 2), (6, 1104)]]⟩, ⟨false, .ints .i64 2 g4⟩, ⟨false, .ints .u8 1104 g5⟩]) (fun x8 g9 => xloop (xcode (E76 N) ents impl_pairs_f_v3.kp 7 N (cL (cK (cB (cB (cK (cA (cB (cB (cL (cK (cB impl_pairs_f_v3.bd))))))))))) 2) impl_pairs_f_v3.kp 7 2 N (impl_pairs_f_v3.st1 g0 g1 g2 g4 g5 x6 x8 g9) (impl_pairs_f_v3.k1g N L0 (mixK (impl_pairs_f_v3.fin N K g0 g1 g2 g3 g4 g5 .ret) kv))) (fun x6 g7 => L0 (impl_pairs_f_v3.st0 g0 g1 g2 g4 g5 x6 g7)) (fun o12 => kv (.exit 0) (impl_pairs_f_v3.sx0_0 g0 g1 g2 g4 g5 o12)) x6 g7) := by kernel_rfl

theorem impl_pairs_f_v3.b0_eq {ρ : Type} (N : Nat) (K : AV → Heap → Option ρ) (L0 : St → Option ρ) (g0 : Nat → Int) (g1 : Bool) (g2 : Nat → Int) (g3 : Nat → Int) (g4 : Nat → Int) (g5 : Nat → Int) (x6 : Int) (g7 : Nat → Int) :
    xcode (E76 N) ents impl_pairs_f_v3.kp 7 N (cL (cK (cB impl_pairs_f_v3.bd))) 0 (impl_pairs_f_v3.st0 g0 g1 g2 g4 g5 x6 g7) (roundK impl_pairs_f_v3.kp 7 0 L0 (impl_pairs_f_v3.k0 N K g0 g1 g2 g3 g4 g5)) = (impl_pairs_f_v3.b0 N (fun d0 d1 d2 => K (.tup []) [⟨false, .ints .u8 64 g0⟩, ⟨true, .avs [.bool (d0)]⟩, ⟨true, .ints .i64 2 d1⟩, ⟨true, .ints .u8 8 d2⟩, ⟨true, .avs [.sptr [(5, 2), (6, 1104)]]⟩, ⟨false, .ints .i64 2 g4⟩, ⟨false, .ints .u8 1104 g5⟩]) (fun x8 g9 => xloop (xcode (E76 N) ents impl_pairs_f_v3.kp 7 N (cL (cK (cB (cB (cK (cA (cB (cB (cL (cK (cB impl_pairs_f_v3.bd))))))))))) 2) impl_pairs_f_v3.kp 7 2 N (impl_pairs_f_v3.st1 g0 g1 g2 g4 g5 x6 x8 g9) (impl_pairs_f_v3.k1g N L0 (impl_pairs_f_v3.k0 N K g0 g1 g2 g3 g4 g5))) (fun x6 g7 => L0 (impl_pairs_f_v3.st0 g0 g1 g2 g4 g5 x6 g7)) (fun o12 => (impl_pairs_f_v3.k0 N K g0 g1 g2 g3 g4 g5) (.exit 0) (impl_pairs_f_v3.sx0_0 g0 g1 g2 g4 g5 o12)) x6 g7) := by
  have h := impl_pairs_f_v3.b0_gen N K L0 (impl_pairs_f_v3.k0 N K g0 g1 g2 g3 g4 g5) g0 g1 g2 g3 g4 g5 x6 g7
  rw [impl_pairs_f_v3.k0_mix] at h
  exact h

theorem impl_pairs_f_v3.a0_0_eq {ρ : Type} (N : Nat) (K : AV → Heap → Option ρ) (g0 : Nat → Int) (g1 : Bool) (g2 : Nat → Int) (g3 : Nat → Int) (g4 : Nat → Int) (g5 : Nat → Int) (o12 : Nat → Int) :
    (impl_pairs_f_v3.k0 N K g0 g1 g2 g3 g4 g5) (.exit 0) (impl_pairs_f_v3.sx0_0 g0 g1 g2 g4 g5 o12) = (impl_pairs_f_v3.a0_0 N (fun d0 d1 d2 => K (.tup []) [⟨false, .ints .u8 64 g0⟩, ⟨true, .avs [.bool (d0)]⟩, ⟨true, .ints .i64 2 d1⟩, ⟨true, .ints .u8 8 d2⟩, ⟨true, .avs [.sptr [(5, 2), (6, 1104)]]⟩, ⟨false, .ints .i64 2 g4⟩, ⟨false, .ints .u8 1104 g5⟩]) g1 g2 o12) := by kernel_rfl

theorem impl_pairs_f_v3.l1_eq {ρ : Type} (N : Nat) (K : AV → Heap → Option ρ) (L0 : St → Option ρ) (g0 : Nat → Int) (g1 : Bool) (g2 : Nat → Int) (g3 : Nat → Int) (g4 : Nat → Int) (g5 : Nat → Int) (x6 : Int) :
    ∀ (m : Nat) (x8 : Int) (g9 : Nat → Int), xloop (xcode (E76 N) ents impl_pairs_f_v3.kp 7 N (cL (cK (cB (cB (cK (cA (cB (cB (cL (cK (cB impl_pairs_f_v3.bd))))))))))) 2) impl_pairs_f_v3.kp 7 2 m (impl_pairs_f_v3.st1 g0 g1 g2 g4 g5 x6 x8 g9) (impl_pairs_f_v3.k1g N L0 (impl_pairs_f_v3.k0 N K g0 g1 g2 g3 g4 g5)) = (impl_pairs_f_v3.l1 N (fun d0 d1 d2 => K (.tup []) [⟨false, .ints .u8 64 g0⟩, ⟨true, .avs [.bool (d0)]⟩, ⟨true, .ints .i64 2 d1⟩, ⟨true, .ints .u8 8 d2⟩, ⟨true, .avs [.sptr [(5, 2), (6, 1104)]]⟩, ⟨false, .ints .i64 2 g4⟩, ⟨false, .ints .u8 1104 g5⟩]) g0 g1 g2 g4 g5 x6 (fun o11 => (impl_pairs_f_v3.k1g N L0 (impl_pairs_f_v3.k0 N K g0 g1 g2 g3 g4 g5)) (.exit 2) (impl_pairs_f_v3.sx1_0 g0 g1 g2 g4 g5 x6 o11)) m x8 g9) := by
  intro m
  induction m with
  | zero => intros; rfl
  | succ m ih =>
    intro x8 g9
    refine (impl_pairs_f_v3.b1_eq N K L0 (fun s => xloop (xcode (E76 N) ents impl_pairs_f_v3.kp 7 N (cL (cK (cB (cB (cK (cA (cB (cB (cL (cK (cB impl_pairs_f_v3.bd))))))))))) 2) impl_pairs_f_v3.kp 7 2 m s (impl_pairs_f_v3.k1g N L0 (impl_pairs_f_v3.k0 N K g0 g1 g2 g3 g4 g5))) g0 g1 g2 g3 g4 g5 x6 x8 g9).trans ?_
    simp only [ih]
    kernel_rfl

theorem impl_pairs_f_v3.l0_eq {ρ : Type} (N : Nat) (K : AV → Heap → Option ρ) (g0 : Nat → Int) (g1 : Bool) (g2 : Nat → Int) (g3 : Nat → Int) (g4 : Nat → Int) (g5 : Nat → Int) :
    ∀ (m : Nat) (x6 : Int) (g7 : Nat → Int), xloop (xcode (E76 N) ents impl_pairs_f_v3.kp 7 N (cL (cK (cB impl_pairs_f_v3.bd))) 0) impl_pairs_f_v3.kp 7 0 m (impl_pairs_f_v3.st0 g0 g1 g2 g4 g5 x6 g7) (impl_pairs_f_v3.k0 N K g0 g1 g2 g3 g4 g5) = (impl_pairs_f_v3.l0 N (fun d0 d1 d2 => K (.tup []) [⟨false, .ints .u8 64 g0⟩, ⟨true, .avs [.bool (d0)]⟩, ⟨true, .ints .i64 2 d1⟩, ⟨true, .ints .u8 8 d2⟩, ⟨true, .avs [.sptr [(5, 2), (6, 1104)]]⟩, ⟨false, .ints .i64 2 g4⟩, ⟨false, .ints .u8 1104 g5⟩]) g0 g1 g2 g4 g5 (fun o12 => (impl_pairs_f_v3.k0 N K g0 g1 g2 g3 g4 g5) (.exit 0) (impl_pairs_f_v3.sx0_0 g0 g1 g2 g4 g5 o12)) m x6 g7) := by
  intro m
  induction m with
  | zero => intros; rfl
  | succ m ih =>
    intro x6 g7
    refine (impl_pairs_f_v3.b0_eq N K (fun s => xloop (xcode (E76 N) ents impl_pairs_f_v3.kp 7 N (cL (cK (cB impl_pairs_f_v3.bd))) 0) impl_pairs_f_v3.kp 7 0 m s (impl_pairs_f_v3.k0 N K g0 g1 g2 g3 g4 g5)) g0 g1 g2 g3 g4 g5 x6 g7).trans ?_
    simp only [ih, impl_pairs_f_v3.l1_eq, impl_pairs_f_v3.a1_0_eq]
    kernel_rfl

theorem impl_pairs_f_v3.s_eq {ρ : Type} (N : Nat) (K : AV → Heap → Option ρ) (g0 : Nat → Int) (g1 : Bool) (g2 : Nat → Int) (g3 : Nat → Int) (g4 : Nat → Int) (g5 : Nat → Int) :
    xbody (E76 N) ents impl_pairs_f_v3.kp N Go.Proofs.Try.f103 impl_pairs_f_v3.bd [.sptr [(0, 64)], .fn 106 0 [[(1, 1)], [(2, 2)], [(3, 8)], [(4, 1)]]] [⟨false, .ints .u8 64 g0⟩, ⟨true, .avs [.bool (g1)]⟩, ⟨true, .ints .i64 2 g2⟩, ⟨true, .ints .u8 8 g3⟩, ⟨true, .avs [.sptr [(5, 2), (6, 1104)]]⟩, ⟨false, .ints .i64 2 g4⟩, ⟨false, .ints .u8 1104 g5⟩] K = (impl_pairs_f_v3.s N (fun d0 d1 d2 => K (.tup []) [⟨false, .ints .u8 64 g0⟩, ⟨true, .avs [.bool (d0)]⟩, ⟨true, .ints .i64 2 d1⟩, ⟨true, .ints .u8 8 d2⟩, ⟨true, .avs [.sptr [(5, 2), (6, 1104)]]⟩, ⟨false, .ints .i64 2 g4⟩, ⟨false, .ints .u8 1104 g5⟩]) (fun x6 g7 => xloop (xcode (E76 N) ents impl_pairs_f_v3.kp 7 N (cL (cK (cB impl_pairs_f_v3.bd))) 0) impl_pairs_f_v3.kp 7 0 N (impl_pairs_f_v3.st0 g0 g1 g2 g4 g5 x6 g7) (impl_pairs_f_v3.k0 N K g0 g1 g2 g3 g4 g5)) g3) := by kernel_rfl

theorem impl_pairs_f_v3.eq {ρ : Type} (N : Nat) (K : AV → Heap → Option ρ) (g0 : Nat → Int) (g1 : Bool) (g2 : Nat → Int) (g3 : Nat → Int) (g4 : Nat → Int) (g5 : Nat → Int) :
    xbody (E76 N) ents impl_pairs_f_v3.kp N Go.Proofs.Try.f103 impl_pairs_f_v3.bd [.sptr [(0, 64)], .fn 106 0 [[(1, 1)], [(2, 2)], [(3, 8)], [(4, 1)]]] [⟨false, .ints .u8 64 g0⟩, ⟨true, .avs [.bool (g1)]⟩, ⟨true, .ints .i64 2 g2⟩, ⟨true, .ints .u8 8 g3⟩, ⟨true, .avs [.sptr [(5, 2), (6, 1104)]]⟩, ⟨false, .ints .i64 2 g4⟩, ⟨false, .ints .u8 1104 g5⟩] K = (impl_pairs_f_v3 N (fun d0 d1 d2 => K (.tup []) [⟨false, .ints .u8 64 g0⟩, ⟨true, .avs [.bool (d0)]⟩, ⟨true, .ints .i64 2 d1⟩, ⟨true, .ints .u8 8 d2⟩, ⟨true, .avs [.sptr [(5, 2), (6, 1104)]]⟩, ⟨false, .ints .i64 2 g4⟩, ⟨false, .ints .u8 1104 g5⟩]) g0 g1 g2 g3 g4 g5) := by
  refine (impl_pairs_f_v3.s_eq N K g0 g1 g2 g3 g4 g5).trans ?_
  simp only [impl_pairs_f_v3.l0_eq, impl_pairs_f_v3.a0_0_eq]
  kernel_rfl

noncomputable def impl_pairs_f_v3.en (N : Nat) (ρ : Type) : List AV → Heap → (AV → Heap → Option ρ) → Option ρ
  | [.sptr [(0, 64)], .fn 106 0 [[(1, 1)], [(2, 2)], [(3, 8)], [(4, 1)]]], [⟨false, .ints .u8 64 g0⟩, ⟨true, .avs [.bool (g1)]⟩, ⟨true, .ints .i64 2 g2⟩, ⟨true, .ints .u8 8 g3⟩, ⟨true, .avs [.sptr [(5, 2), (6, 1104)]]⟩, ⟨false, .ints .i64 2 g4⟩, ⟨false, .ints .u8 1104 g5⟩], K => (impl_pairs_f_v3 N (fun d0 d1 d2 => K (.tup []) [⟨false, .ints .u8 64 g0⟩, ⟨true, .avs [.bool (d0)]⟩, ⟨true, .ints .i64 2 d1⟩, ⟨true, .ints .u8 8 d2⟩, ⟨true, .avs [.sptr [(5, 2), (6, 1104)]]⟩, ⟨false, .ints .i64 2 g4⟩, ⟨false, .ints .u8 1104 g5⟩]) g0 g1 g2 g3 g4 g5)
  | args, sh, K => (E76 N).fn 103 ρ args sh K

theorem impl_pairs_f_v3.en_ok (N : Nat) (hE : EnvOk (E76 N) ents) (ρ : Type) (args : List AV) (sh : Heap) (K : AV → Heap → Option ρ) (r : ρ) (h : impl_pairs_f_v3.en N ρ args sh K = some r) : ∃ v sh', K v sh' = some r ∧ FnOk (E76 N).P 103 args sh v sh' := by
  unfold impl_pairs_f_v3.en at h
  split at h
  · exact fn_ok hE (kp := impl_pairs_f_v3.kp) (N := N) Go.Proofs.Try.func103 (c := impl_pairs_f_v3.bd) (by kernel_rfl) ((impl_pairs_f_v3.eq N _ _ _ _ _ _ _).trans h)
  · exact hE.spec _ _ _ _ _ _ h

noncomputable def E77 (N : Nat) : Env := (E76 N).add 103 (impl_pairs_f_v3.en N)

theorem E77_ok (N : Nat) : EnvOk (E77 N) ents := Env.add_ok (E76_ok N) (impl_pairs_f_v3.en_ok N (E76_ok N))

noncomputable def impl_Hopf_folded.kp : Keeps := ⟨[], []⟩

noncomputable def impl_Hopf_folded.bd : Code := bodyOf Go.Proofs.Try.f88

noncomputable def impl_Hopf_folded.fin {ρ : Type} (N : Nat) (K : AV → Heap → Option ρ) (g2 : Nat → Int) (g3 : Nat → Int) : XE → St → Option ρ := finK (E77 N) Go.Proofs.Try.f88 [⟨false, .ints .i64 2 g2⟩, ⟨false, .ints .u8 1104 g3⟩] K

theorem impl_Hopf_folded.eq {ρ : Type} (N : Nat) (K : AV → Heap → Option ρ) (i0 : Int) (firstPart1 : Bool) (g2 : Nat → Int) (g3 : Nat → Int) :
    xbody (E77 N) ents impl_Hopf_folded.kp N Go.Proofs.Try.f88 impl_Hopf_folded.bd [.sptr [(0, 2), (1, 1104)], .int .i64 (i0), .bool (firstPart1)] [⟨false, .ints .i64 2 g2⟩, ⟨false, .ints .u8 1104 g3⟩] K = (impl_Hopf_folded N (fun d0 => K (.agg [⟨.u8, 8, d0⟩]) [⟨false, .ints .i64 2 g2⟩, ⟨false, .ints .u8 1104 g3⟩]) i0 firstPart1 g2 g3) := by kernel_rfl

noncomputable def impl_Hopf_folded.en (N : Nat) (ρ : Type) : List AV → Heap → (AV → Heap → Option ρ) → Option ρ
  | [.sptr [(0, 2), (1, 1104)], .int .i64 (i0), .bool (firstPart1)], [⟨false, .ints .i64 2 g2⟩, ⟨false, .ints .u8 1104 g3⟩], K => (impl_Hopf_folded N (fun d0 => K (.agg [⟨.u8, 8, d0⟩]) [⟨false, .ints .i64 2 g2⟩, ⟨false, .ints .u8 1104 g3⟩]) i0 firstPart1 g2 g3)
  | _, _, _ => none

theorem impl_Hopf_folded.en_ok (N : Nat) (hE : EnvOk (E77 N) ents) (ρ : Type) (args : List AV) (sh : Heap) (K : AV → Heap → Option ρ) (r : ρ) (h : impl_Hopf_folded.en N ρ args sh K = some r) : ∃ v sh', K v sh' = some r ∧ FnOk (E77 N).P 88 args sh v sh' := by
  unfold impl_Hopf_folded.en at h
  split at h
  · exact fn_ok hE (kp := impl_Hopf_folded.kp) (N := N) Go.Proofs.Try.func88 (c := impl_Hopf_folded.bd) (by kernel_rfl) ((impl_Hopf_folded.eq N _ _ _ _ _).trans h)
  · cases h

noncomputable def E78 (N : Nat) : Env := (E77 N).add 88 (impl_Hopf_folded.en N)

theorem E78_ok (N : Nat) : EnvOk (E78 N) ents := Env.add_ok (E77_ok N) (impl_Hopf_folded.en_ok N (E77_ok N))

noncomputable def impl_Hopf_axiomS.kp : Keeps := ⟨[(0, [0, 1, 5, 10, 11], 3)], [(0, [], 3)]⟩

noncomputable def impl_Hopf_axiomS.bd : Code := bodyOf Go.Proofs.Try.f66

noncomputable def impl_Hopf_axiomS.fin {ρ : Type} (N : Nat) (K : AV → Heap → Option ρ) (g1 : Nat → Int) (g2 : Nat → Int) : XE → St → Option ρ := finK (E78 N) Go.Proofs.Try.f66 [⟨false, .ints .i64 2 g1⟩, ⟨false, .ints .u8 1104 g2⟩] K

noncomputable def impl_Hopf_axiomS.k0 {ρ : Type} (N : Nat) (K : AV → Heap → Option ρ) (g1 : Nat → Int) (g2 : Nat → Int) : XE → St → Option ρ := (blockK impl_Hopf_axiomS.kp 2 0 (seqK (xcode (E78 N) ents impl_Hopf_axiomS.kp 2 N (cB (cB (cB impl_Hopf_axiomS.bd))) 0) (impl_Hopf_axiomS.fin N K g1 g2)))

theorem impl_Hopf_axiomS.k0_mix {ρ : Type} (N : Nat) (K : AV → Heap → Option ρ) (g1 : Nat → Int) (g2 : Nat → Int) : mixK (impl_Hopf_axiomS.fin N K g1 g2 .ret) (impl_Hopf_axiomS.k0 N K g1 g2) = (impl_Hopf_axiomS.k0 N K g1 g2) := by
  funext e s; cases e <;> rfl

noncomputable def impl_Hopf_axiomS.st0 (firstPart0 : Bool) (g1 : Nat → Int) (g2 : Nat → Int) (r3 : Nat → Int) (x4 : Int) : St := ⟨sl 33 [(0, .sptr [(0, 2), (1, 1104)]), (1, .bool (firstPart0)), (5, .sptr [(2, 2)]), (10, .int .i64 ((r3 1))), (11, .int .i64 (x4))], [⟨false, .ints .i64 2 g1⟩, ⟨false, .ints .u8 1104 g2⟩, ⟨true, .ints .i64 2 r3⟩]⟩

noncomputable def impl_Hopf_axiomS.sx0_0 (g1 : Nat → Int) (g2 : Nat → Int) (r3 : Nat → Int) : St := ⟨sl 33 [], [⟨false, .ints .i64 2 g1⟩, ⟨false, .ints .u8 1104 g2⟩, ⟨true, .ints .i64 2 r3⟩]⟩

theorem impl_Hopf_axiomS.b0_gen {ρ : Type} (N : Nat) (K : AV → Heap → Option ρ) (L0 : St → Option ρ) (kv : XE → St → Option ρ) (firstPart0 : Bool) (g1 : Nat → Int) (g2 : Nat → Int) (r3 : Nat → Int) (x4 : Int) :
    xcode (E78 N) ents impl_Hopf_axiomS.kp 2 N (cL (cK (cB (cA (cB (cB impl_Hopf_axiomS.bd)))))) 0 (impl_Hopf_axiomS.st0 firstPart0 g1 g2 r3 x4) (roundK impl_Hopf_axiomS.kp 2 0 L0 (mixK (impl_Hopf_axiomS.fin N K g1 g2 .ret) kv)) = (impl_Hopf_axiomS.b0 N (fun d0 => K (.bool (d0)) [⟨false, .ints .i64 2 g1⟩, ⟨false, .ints .u8 1104 g2⟩]) (fun x4 => L0 (impl_Hopf_axiomS.st0 firstPart0 g1 g2 r3 x4)) (kv (.exit 0) (impl_Hopf_axiomS.sx0_0 g1 g2 r3)) firstPart0 g1 g2 r3 x4) := by kernel_rfl

theorem impl_Hopf_axiomS.b0_eq {ρ : Type} (N : Nat) (K : AV → Heap → Option ρ) (L0 : St → Option ρ) (firstPart0 : Bool) (g1 : Nat → Int) (g2 : Nat → Int) (r3 : Nat → Int) (x4 : Int) :
    xcode (E78 N) ents impl_Hopf_axiomS.kp 2 N (cL (cK (cB (cA (cB (cB impl_Hopf_axiomS.bd)))))) 0 (impl_Hopf_axiomS.st0 firstPart0 g1 g2 r3 x4) (roundK impl_Hopf_axiomS.kp 2 0 L0 (impl_Hopf_axiomS.k0 N K g1 g2)) = (impl_Hopf_axiomS.b0 N (fun d0 => K (.bool (d0)) [⟨false, .ints .i64 2 g1⟩, ⟨false, .ints .u8 1104 g2⟩]) (fun x4 => L0 (impl_Hopf_axiomS.st0 firstPart0 g1 g2 r3 x4)) ((impl_Hopf_axiomS.k0 N K g1 g2) (.exit 0) (impl_Hopf_axiomS.sx0_0 g1 g2 r3)) firstPart0 g1 g2 r3 x4) := by
  have h := impl_Hopf_axiomS.b0_gen N K L0 (impl_Hopf_axiomS.k0 N K g1 g2) firstPart0 g1 g2 r3 x4
  rw [impl_Hopf_axiomS.k0_mix] at h
  exact h

theorem impl_Hopf_axiomS.a0_0_eq {ρ : Type} (N : Nat) (K : AV → Heap → Option ρ) (g1 : Nat → Int) (g2 : Nat → Int) (r3 : Nat → Int) :
    (impl_Hopf_axiomS.k0 N K g1 g2) (.exit 0) (impl_Hopf_axiomS.sx0_0 g1 g2 r3) = (impl_Hopf_axiomS.a0_0 N (fun d0 => K (.bool (d0)) [⟨false, .ints .i64 2 g1⟩, ⟨false, .ints .u8 1104 g2⟩])) := by kernel_rfl

theorem impl_Hopf_axiomS.l0_eq {ρ : Type} (N : Nat) (K : AV → Heap → Option ρ) (firstPart0 : Bool) (g1 : Nat → Int) (g2 : Nat → Int) (r3 : Nat → Int) :
    ∀ (m : Nat) (x4 : Int), xloop (xcode (E78 N) ents impl_Hopf_axiomS.kp 2 N (cL (cK (cB (cA (cB (cB impl_Hopf_axiomS.bd)))))) 0) impl_Hopf_axiomS.kp 2 0 m (impl_Hopf_axiomS.st0 firstPart0 g1 g2 r3 x4) (impl_Hopf_axiomS.k0 N K g1 g2) = (impl_Hopf_axiomS.l0 N (fun d0 => K (.bool (d0)) [⟨false, .ints .i64 2 g1⟩, ⟨false, .ints .u8 1104 g2⟩]) firstPart0 g1 g2 r3 ((impl_Hopf_axiomS.k0 N K g1 g2) (.exit 0) (impl_Hopf_axiomS.sx0_0 g1 g2 r3)) m x4) := by
  intro m
  induction m with
  | zero => intros; rfl
  | succ m ih =>
    intro x4
    refine (impl_Hopf_axiomS.b0_eq N K (fun s => xloop (xcode (E78 N) ents impl_Hopf_axiomS.kp 2 N (cL (cK (cB (cA (cB (cB impl_Hopf_axiomS.bd)))))) 0) impl_Hopf_axiomS.kp 2 0 m s (impl_Hopf_axiomS.k0 N K g1 g2)) firstPart0 g1 g2 r3 x4).trans ?_
    simp only [ih]
    kernel_rfl

theorem impl_Hopf_axiomS.s_eq {ρ : Type} (N : Nat) (K : AV → Heap → Option ρ) (firstPart0 : Bool) (g1 : Nat → Int) (g2 : Nat → Int) :
    xbody (E78 N) ents impl_Hopf_axiomS.kp N Go.Proofs.Try.f66 impl_Hopf_axiomS.bd [.sptr [(0, 2), (1, 1104)], .bool (firstPart0)] [⟨false, .ints .i64 2 g1⟩, ⟨false, .ints .u8 1104 g2⟩] K = (impl_Hopf_axiomS.s N (fun d0 => K (.bool (d0)) [⟨false, .ints .i64 2 g1⟩, ⟨false, .ints .u8 1104 g2⟩]) (fun r3 x4 => xloop (xcode (E78 N) ents impl_Hopf_axiomS.kp 2 N (cL (cK (cB (cA (cB (cB impl_Hopf_axiomS.bd)))))) 0) impl_Hopf_axiomS.kp 2 0 N (impl_Hopf_axiomS.st0 firstPart0 g1 g2 r3 x4) (impl_Hopf_axiomS.k0 N K g1 g2)) g1 g2) := by kernel_rfl

theorem impl_Hopf_axiomS.eq {ρ : Type} (N : Nat) (K : AV → Heap → Option ρ) (firstPart0 : Bool) (g1 : Nat → Int) (g2 : Nat → Int) :
    xbody (E78 N) ents impl_Hopf_axiomS.kp N Go.Proofs.Try.f66 impl_Hopf_axiomS.bd [.sptr [(0, 2), (1, 1104)], .bool (firstPart0)] [⟨false, .ints .i64 2 g1⟩, ⟨false, .ints .u8 1104 g2⟩] K = (impl_Hopf_axiomS N (fun d0 => K (.bool (d0)) [⟨false, .ints .i64 2 g1⟩, ⟨false, .ints .u8 1104 g2⟩]) firstPart0 g1 g2) := by
  refine (impl_Hopf_axiomS.s_eq N K firstPart0 g1 g2).trans ?_
  simp only [impl_Hopf_axiomS.l0_eq, impl_Hopf_axiomS.a0_0_eq]
  kernel_rfl

noncomputable def impl_Hopf_axiomS.en (N : Nat) (ρ : Type) : List AV → Heap → (AV → Heap → Option ρ) → Option ρ
  | [.sptr [(0, 2), (1, 1104)], .bool (firstPart0)], [⟨false, .ints .i64 2 g1⟩, ⟨false, .ints .u8 1104 g2⟩], K => (impl_Hopf_axiomS N (fun d0 => K (.bool (d0)) [⟨false, .ints .i64 2 g1⟩, ⟨false, .ints .u8 1104 g2⟩]) firstPart0 g1 g2)
  | _, _, _ => none

theorem impl_Hopf_axiomS.en_ok (N : Nat) (hE : EnvOk (E78 N) ents) (ρ : Type) (args : List AV) (sh : Heap) (K : AV → Heap → Option ρ) (r : ρ) (h : impl_Hopf_axiomS.en N ρ args sh K = some r) : ∃ v sh', K v sh' = some r ∧ FnOk (E78 N).P 66 args sh v sh' := by
  unfold impl_Hopf_axiomS.en at h
  split at h
  · exact fn_ok hE (kp := impl_Hopf_axiomS.kp) (N := N) Go.Proofs.Try.func66 (c := impl_Hopf_axiomS.bd) (by kernel_rfl) ((impl_Hopf_axiomS.eq N _ _ _ _).trans h)
  · cases h

noncomputable def E79 (N : Nat) : Env := (E78 N).add 66 (impl_Hopf_axiomS.en N)

theorem E79_ok (N : Nat) : EnvOk (E79 N) ents := Env.add_ok (E78_ok N) (impl_Hopf_axiomS.en_ok N (E78_ok N))

noncomputable def impl_Hopf_fails_c3.kp : Keeps := ⟨[], []⟩

noncomputable def impl_Hopf_fails_c3.bd : Code := bodyOf Go.Proofs.Try.f65

noncomputable def impl_Hopf_fails_c3.fin {ρ : Type} (N : Nat) (K : AV → Heap → Option ρ) (g0 : Nat → Int) (g1 : Nat → Int) : XE → St → Option ρ := finK (E79 N) Go.Proofs.Try.f65 [⟨false, .avs [.sptr [(1, 2), (2, 1104)]]⟩, ⟨false, .ints .i64 2 g0⟩, ⟨false, .ints .u8 1104 g1⟩] K

theorem impl_Hopf_fails_c3.eq {ρ : Type} (N : Nat) (K : AV → Heap → Option ρ) (g0 : Nat → Int) (g1 : Nat → Int) :
    xbody (E79 N) ents impl_Hopf_fails_c3.kp N Go.Proofs.Try.f65 impl_Hopf_fails_c3.bd [.sptr [(0, 1)]] [⟨false, .avs [.sptr [(1, 2), (2, 1104)]]⟩, ⟨false, .ints .i64 2 g0⟩, ⟨false, .ints .u8 1104 g1⟩] K = (impl_Hopf_fails_c3 N (fun d0 => K (.bool (d0)) [⟨false, .avs [.sptr [(1, 2), (2, 1104)]]⟩, ⟨false, .ints .i64 2 g0⟩, ⟨false, .ints .u8 1104 g1⟩]) g0 g1) := by kernel_rfl

noncomputable def impl_Hopf_fails_c3.en (N : Nat) (ρ : Type) : List AV → Heap → (AV → Heap → Option ρ) → Option ρ
  | [.sptr [(0, 1)]], [⟨false, .avs [.sptr [(1, 2), (2, 1104)]]⟩, ⟨false, .ints .i64 2 g0⟩, ⟨false, .ints .u8 1104 g1⟩], K => (impl_Hopf_fails_c3 N (fun d0 => K (.bool (d0)) [⟨false, .avs [.sptr [(1, 2), (2, 1104)]]⟩, ⟨false, .ints .i64 2 g0⟩, ⟨false, .ints .u8 1104 g1⟩]) g0 g1)
  | _, _, _ => none

theorem impl_Hopf_fails_c3.en_ok (N : Nat) (hE : EnvOk (E79 N) ents) (ρ : Type) (args : List AV) (sh : Heap) (K : AV → Heap → Option ρ) (r : ρ) (h : impl_Hopf_fails_c3.en N ρ args sh K = some r) : ∃ v sh', K v sh' = some r ∧ FnOk (E79 N).P 65 args sh v sh' := by
  unfold impl_Hopf_fails_c3.en at h
  split at h
  · exact fn_ok hE (kp := impl_Hopf_fails_c3.kp) (N := N) Go.Proofs.Try.func65 (c := impl_Hopf_fails_c3.bd) (by kernel_rfl) ((impl_Hopf_fails_c3.eq N _ _ _).trans h)
  · cases h

noncomputable def E80 (N : Nat) : Env := (E79 N).add 65 (impl_Hopf_fails_c3.en N)

theorem E80_ok (N : Nat) : EnvOk (E80 N) ents := Env.add_ok (E79_ok N) (impl_Hopf_fails_c3.en_ok N (E79_ok N))

noncomputable def impl_Hopf_fails_c4.kp : Keeps := ⟨[], []⟩

noncomputable def impl_Hopf_fails_c4.bd : Code := bodyOf Go.Proofs.Try.f67

noncomputable def impl_Hopf_fails_c4.fin {ρ : Type} (N : Nat) (K : AV → Heap → Option ρ) (g0 : Nat → Int) (g1 : Nat → Int) : XE → St → Option ρ := finK (E80 N) Go.Proofs.Try.f67 [⟨false, .avs [.sptr [(1, 2), (2, 1104)]]⟩, ⟨false, .ints .i64 2 g0⟩, ⟨false, .ints .u8 1104 g1⟩] K

theorem impl_Hopf_fails_c4.eq {ρ : Type} (N : Nat) (K : AV → Heap → Option ρ) (g0 : Nat → Int) (g1 : Nat → Int) :
    xbody (E80 N) ents impl_Hopf_fails_c4.kp N Go.Proofs.Try.f67 impl_Hopf_fails_c4.bd [.sptr [(0, 1)]] [⟨false, .avs [.sptr [(1, 2), (2, 1104)]]⟩, ⟨false, .ints .i64 2 g0⟩, ⟨false, .ints .u8 1104 g1⟩] K = (impl_Hopf_fails_c4 N (fun d0 => K (.bool (d0)) [⟨false, .avs [.sptr [(1, 2), (2, 1104)]]⟩, ⟨false, .ints .i64 2 g0⟩, ⟨false, .ints .u8 1104 g1⟩]) g0 g1) := by kernel_rfl

noncomputable def impl_Hopf_fails_c4.en (N : Nat) (ρ : Type) : List AV → Heap → (AV → Heap → Option ρ) → Option ρ
  | [.sptr [(0, 1)]], [⟨false, .avs [.sptr [(1, 2), (2, 1104)]]⟩, ⟨false, .ints .i64 2 g0⟩, ⟨false, .ints .u8 1104 g1⟩], K => (impl_Hopf_fails_c4 N (fun d0 => K (.bool (d0)) [⟨false, .avs [.sptr [(1, 2), (2, 1104)]]⟩, ⟨false, .ints .i64 2 g0⟩, ⟨false, .ints .u8 1104 g1⟩]) g0 g1)
  | _, _, _ => none

theorem impl_Hopf_fails_c4.en_ok (N : Nat) (hE : EnvOk (E80 N) ents) (ρ : Type) (args : List AV) (sh : Heap) (K : AV → Heap → Option ρ) (r : ρ) (h : impl_Hopf_fails_c4.en N ρ args sh K = some r) : ∃ v sh', K v sh' = some r ∧ FnOk (E80 N).P 67 args sh v sh' := by
  unfold impl_Hopf_fails_c4.en at h
  split at h
  · exact fn_ok hE (kp := impl_Hopf_fails_c4.kp) (N := N) Go.Proofs.Try.func67 (c := impl_Hopf_fails_c4.bd) (by kernel_rfl) ((impl_Hopf_fails_c4.eq N _ _ _).trans h)
  · cases h

noncomputable def E81 (N : Nat) : Env := (E80 N).add 67 (impl_Hopf_fails_c4.en N)

theorem E81_ok (N : Nat) : EnvOk (E81 N) ents := Env.add_ok (E80_ok N) (impl_Hopf_fails_c4.en_ok N (E80_ok N))

noncomputable def impl_Hopf_fails.kp : Keeps := ⟨[(0, [21, 22, 23], 4)], [(0, [], 4)]⟩

noncomputable def impl_Hopf_fails.bd : Code := bodyOf Go.Proofs.Try.f33

noncomputable def impl_Hopf_fails.fin {ρ : Type} (N : Nat) (K : AV → Heap → Option ρ) (g1 : Nat → Int) (g2 : Nat → Int) : XE → St → Option ρ := finK (E81 N) Go.Proofs.Try.f33 [⟨false, .ints .i64 2 g1⟩, ⟨false, .ints .u8 1104 g2⟩] K

theorem impl_Hopf_fails.eq {ρ : Type} (K : AV → Heap → Option ρ) (up0 : Int) (g1 : Nat → Int) (g2 : Nat → Int) :
    xbody (E81 5000) ents impl_Hopf_fails.kp 5000 Go.Proofs.Try.f33 impl_Hopf_fails.bd [.sptr [(0, 2), (1, 1104)], .int .i64 (up0)] [⟨false, .ints .i64 2 g1⟩, ⟨false, .ints .u8 1104 g2⟩] K = (impl_Hopf_fails 5000 (fun d0 => K (.int .i64 (d0)) [⟨false, .ints .i64 2 g1⟩, ⟨false, .ints .u8 1104 g2⟩]) up0 g1 g2) := by kernel_rfl

noncomputable def impl_Hopf_fails.en (N : Nat) (ρ : Type) : List AV → Heap → (AV → Heap → Option ρ) → Option ρ
  | [.sptr [(0, 2), (1, 1104)], .int .i64 (up0)], [⟨false, .ints .i64 2 g1⟩, ⟨false, .ints .u8 1104 g2⟩], K => (if N = 5000 then (impl_Hopf_fails N (fun d0 => K (.int .i64 (d0)) [⟨false, .ints .i64 2 g1⟩, ⟨false, .ints .u8 1104 g2⟩]) up0 g1 g2) else none)
  | _, _, _ => none

theorem impl_Hopf_fails.en_ok (N : Nat) (hE : EnvOk (E81 N) ents) (ρ : Type) (args : List AV) (sh : Heap) (K : AV → Heap → Option ρ) (r : ρ) (h : impl_Hopf_fails.en N ρ args sh K = some r) : ∃ v sh', K v sh' = some r ∧ FnOk (E81 N).P 33 args sh v sh' := by
  unfold impl_Hopf_fails.en at h
  split at h
  · split at h
    · rename_i hN
      subst hN
      exact fn_ok hE (kp := impl_Hopf_fails.kp) (N := 5000) Go.Proofs.Try.func33 (c := impl_Hopf_fails.bd) (by kernel_rfl) ((impl_Hopf_fails.eq _ _ _ _).trans h)
    · cases h
  · cases h

noncomputable def E82 (N : Nat) : Env := (E81 N).add 33 (impl_Hopf_fails.en N)

theorem E82_ok (N : Nat) : EnvOk (E82 N) ents := Env.add_ok (E81_ok N) (impl_Hopf_fails.en_ok N (E81_ok N))

noncomputable def impl_IsHopf.kp : Keeps := ⟨[], []⟩

noncomputable def impl_IsHopf.bd : Code := bodyOf Go.Proofs.Try.f12

noncomputable def impl_IsHopf.fin {ρ : Type} (N : Nat) (K : AV → Heap → Option ρ) : XE → St → Option ρ := finK (E82 N) Go.Proofs.Try.f12 [] K

theorem impl_IsHopf.eq {ρ : Type} (N : Nat) (K : AV → Heap → Option ρ) (h0 : Nat → Int) (h1 : Nat → Int) :
    xbody (E82 N) ents impl_IsHopf.kp N Go.Proofs.Try.f12 impl_IsHopf.bd [.agg [⟨.i64, 2, h0⟩, ⟨.u8, 1104, h1⟩]] [] K = (impl_IsHopf N (fun d0 => K (.bool (d0)) []) h0 h1) := by kernel_rfl

noncomputable def impl_IsHopf.en (N : Nat) (ρ : Type) : List AV → Heap → (AV → Heap → Option ρ) → Option ρ
  | [.agg [⟨.i64, 2, h0⟩, ⟨.u8, 1104, h1⟩]], [], K => (impl_IsHopf N (fun d0 => K (.bool (d0)) []) h0 h1)
  | _, _, _ => none

theorem impl_IsHopf.en_ok (N : Nat) (hE : EnvOk (E82 N) ents) (ρ : Type) (args : List AV) (sh : Heap) (K : AV → Heap → Option ρ) (r : ρ) (h : impl_IsHopf.en N ρ args sh K = some r) : ∃ v sh', K v sh' = some r ∧ FnOk (E82 N).P 12 args sh v sh' := by
  unfold impl_IsHopf.en at h
  split at h
  · exact fn_ok hE (kp := impl_IsHopf.kp) (N := N) Go.Proofs.Try.func12 (c := impl_IsHopf.bd) (by kernel_rfl) ((impl_IsHopf.eq N _ _ _).trans h)
  · cases h

noncomputable def E83 (N : Nat) : Env := (E82 N).add 12 (impl_IsHopf.en N)

theorem E83_ok (N : Nat) : EnvOk (E83 N) ents := Env.add_ok (E82_ok N) (impl_IsHopf.en_ok N (E82_ok N))

noncomputable def laws_FnExactIsHopf.kp : Keeps := ⟨[], []⟩

noncomputable def laws_FnExactIsHopf.bd : Code := bodyOf Go.Proofs.Try.f3

noncomputable def laws_FnExactIsHopf.fin {ρ : Type} (N : Nat) (K : AV → Heap → Option ρ) : XE → St → Option ρ := finK (E83 N) Go.Proofs.Try.f3 [] K

theorem laws_FnExactIsHopf.eq {ρ : Type} (N : Nat) (K : AV → Heap → Option ρ) (aH0 : Nat → Int) (aH1 : Nat → Int) :
    xbody (E83 N) ents laws_FnExactIsHopf.kp N Go.Proofs.Try.f3 laws_FnExactIsHopf.bd [.agg [⟨.i64, 2, aH0⟩, ⟨.u8, 1104, aH1⟩]] [] K = (laws_FnExactIsHopf N (fun d0 => K (.bool (d0)) []) aH0 aH1) := by kernel_rfl

noncomputable def laws_FnExactIsHopf.en (N : Nat) (ρ : Type) : List AV → Heap → (AV → Heap → Option ρ) → Option ρ
  | [.agg [⟨.i64, 2, aH0⟩, ⟨.u8, 1104, aH1⟩]], [], K => (laws_FnExactIsHopf N (fun d0 => K (.bool (d0)) []) aH0 aH1)
  | _, _, _ => none

theorem laws_FnExactIsHopf.en_ok (N : Nat) (hE : EnvOk (E83 N) ents) (ρ : Type) (args : List AV) (sh : Heap) (K : AV → Heap → Option ρ) (r : ρ) (h : laws_FnExactIsHopf.en N ρ args sh K = some r) : ∃ v sh', K v sh' = some r ∧ FnOk (E83 N).P 3 args sh v sh' := by
  unfold laws_FnExactIsHopf.en at h
  split at h
  · exact fn_ok hE (kp := laws_FnExactIsHopf.kp) (N := N) Go.Proofs.Try.func3 (c := laws_FnExactIsHopf.bd) (by kernel_rfl) ((laws_FnExactIsHopf.eq N _ _ _).trans h)
  · cases h

noncomputable def E84 (N : Nat) : Env := (E83 N).add 3 (laws_FnExactIsHopf.en N)

theorem E84_ok (N : Nat) : EnvOk (E84 N) ents := Env.add_ok (E83_ok N) (laws_FnExactIsHopf.en_ok N (E83_ok N))

noncomputable def spec_AxiomThatFails.kp : Keeps := ⟨[], []⟩

noncomputable def spec_AxiomThatFails.bd : Code := bodyOf Go.Proofs.Try.f13

noncomputable def spec_AxiomThatFails.fin {ρ : Type} (N : Nat) (K : AV → Heap → Option ρ) : XE → St → Option ρ := finK (E84 N) Go.Proofs.Try.f13 [] K

theorem spec_AxiomThatFails.eq {ρ : Type} (N : Nat) (K : AV → Heap → Option ρ) (h0 : Nat → Int) (h1 : Nat → Int) :
    xbody (E84 N) ents spec_AxiomThatFails.kp N Go.Proofs.Try.f13 spec_AxiomThatFails.bd [.agg [⟨.i64, 2, h0⟩, ⟨.u8, 1104, h1⟩]] [] K = (spec_AxiomThatFails N (fun d0 d1 => K (.tup [.int .i64 (d0), .int .i64 (d1)]) []) h0 h1) := by kernel_rfl

noncomputable def spec_AxiomThatFails.en (N : Nat) (ρ : Type) : List AV → Heap → (AV → Heap → Option ρ) → Option ρ
  | [.agg [⟨.i64, 2, h0⟩, ⟨.u8, 1104, h1⟩]], [], K => (spec_AxiomThatFails N (fun d0 d1 => K (.tup [.int .i64 (d0), .int .i64 (d1)]) []) h0 h1)
  | _, _, _ => none

theorem spec_AxiomThatFails.en_ok (N : Nat) (hE : EnvOk (E84 N) ents) (ρ : Type) (args : List AV) (sh : Heap) (K : AV → Heap → Option ρ) (r : ρ) (h : spec_AxiomThatFails.en N ρ args sh K = some r) : ∃ v sh', K v sh' = some r ∧ FnOk (E84 N).P 13 args sh v sh' := by
  unfold spec_AxiomThatFails.en at h
  split at h
  · exact fn_ok hE (kp := spec_AxiomThatFails.kp) (N := N) Go.Proofs.Try.func13 (c := spec_AxiomThatFails.bd) (by kernel_rfl) ((spec_AxiomThatFails.eq N _ _ _).trans h)
  · cases h

noncomputable def E85 (N : Nat) : Env := (E84 N).add 13 (spec_AxiomThatFails.en N)

theorem E85_ok (N : Nat) : EnvOk (E85 N) ents := Env.add_ok (E84_ok N) (spec_AxiomThatFails.en_ok N (E84_ok N))

noncomputable def impl_AxiomThatFails.kp : Keeps := ⟨[], []⟩

noncomputable def impl_AxiomThatFails.bd : Code := bodyOf Go.Proofs.Try.f14

noncomputable def impl_AxiomThatFails.fin {ρ : Type} (N : Nat) (K : AV → Heap → Option ρ) : XE → St → Option ρ := finK (E85 N) Go.Proofs.Try.f14 [] K

theorem impl_AxiomThatFails.eq {ρ : Type} (N : Nat) (K : AV → Heap → Option ρ) (h0 : Nat → Int) (h1 : Nat → Int) :
    xbody (E85 N) ents impl_AxiomThatFails.kp N Go.Proofs.Try.f14 impl_AxiomThatFails.bd [.agg [⟨.i64, 2, h0⟩, ⟨.u8, 1104, h1⟩]] [] K = (impl_AxiomThatFails N (fun d0 d1 => K (.tup [.int .i64 (d0), .int .i64 (d1)]) []) h0 h1) := by kernel_rfl

noncomputable def impl_AxiomThatFails.en (N : Nat) (ρ : Type) : List AV → Heap → (AV → Heap → Option ρ) → Option ρ
  | [.agg [⟨.i64, 2, h0⟩, ⟨.u8, 1104, h1⟩]], [], K => (impl_AxiomThatFails N (fun d0 d1 => K (.tup [.int .i64 (d0), .int .i64 (d1)]) []) h0 h1)
  | _, _, _ => none

theorem impl_AxiomThatFails.en_ok (N : Nat) (hE : EnvOk (E85 N) ents) (ρ : Type) (args : List AV) (sh : Heap) (K : AV → Heap → Option ρ) (r : ρ) (h : impl_AxiomThatFails.en N ρ args sh K = some r) : ∃ v sh', K v sh' = some r ∧ FnOk (E85 N).P 14 args sh v sh' := by
  unfold impl_AxiomThatFails.en at h
  split at h
  · exact fn_ok hE (kp := impl_AxiomThatFails.kp) (N := N) Go.Proofs.Try.func14 (c := impl_AxiomThatFails.bd) (by kernel_rfl) ((impl_AxiomThatFails.eq N _ _ _).trans h)
  · cases h

noncomputable def E86 (N : Nat) : Env := (E85 N).add 14 (impl_AxiomThatFails.en N)

theorem E86_ok (N : Nat) : EnvOk (E86 N) ents := Env.add_ok (E85_ok N) (impl_AxiomThatFails.en_ok N (E85_ok N))

noncomputable def laws_FnExactAxiomThatFails.kp : Keeps := ⟨[], []⟩

noncomputable def laws_FnExactAxiomThatFails.bd : Code := bodyOf Go.Proofs.Try.f4

noncomputable def laws_FnExactAxiomThatFails.fin {ρ : Type} (N : Nat) (K : AV → Heap → Option ρ) : XE → St → Option ρ := finK (E86 N) Go.Proofs.Try.f4 [] K

theorem laws_FnExactAxiomThatFails.eq {ρ : Type} (N : Nat) (K : AV → Heap → Option ρ) (aH0 : Nat → Int) (aH1 : Nat → Int) :
    xbody (E86 N) ents laws_FnExactAxiomThatFails.kp N Go.Proofs.Try.f4 laws_FnExactAxiomThatFails.bd [.agg [⟨.i64, 2, aH0⟩, ⟨.u8, 1104, aH1⟩]] [] K = (laws_FnExactAxiomThatFails N (fun d0 => K (.bool (d0)) []) aH0 aH1) := by kernel_rfl

noncomputable def laws_FnExactAxiomThatFails.en (N : Nat) (ρ : Type) : List AV → Heap → (AV → Heap → Option ρ) → Option ρ
  | [.agg [⟨.i64, 2, aH0⟩, ⟨.u8, 1104, aH1⟩]], [], K => (laws_FnExactAxiomThatFails N (fun d0 => K (.bool (d0)) []) aH0 aH1)
  | _, _, _ => none

theorem laws_FnExactAxiomThatFails.en_ok (N : Nat) (hE : EnvOk (E86 N) ents) (ρ : Type) (args : List AV) (sh : Heap) (K : AV → Heap → Option ρ) (r : ρ) (h : laws_FnExactAxiomThatFails.en N ρ args sh K = some r) : ∃ v sh', K v sh' = some r ∧ FnOk (E86 N).P 4 args sh v sh' := by
  unfold laws_FnExactAxiomThatFails.en at h
  split at h
  · exact fn_ok hE (kp := laws_FnExactAxiomThatFails.kp) (N := N) Go.Proofs.Try.func4 (c := laws_FnExactAxiomThatFails.bd) (by kernel_rfl) ((laws_FnExactAxiomThatFails.eq N _ _ _).trans h)
  · cases h

noncomputable def E87 (N : Nat) : Env := (E86 N).add 4 (laws_FnExactAxiomThatFails.en N)

theorem E87_ok (N : Nat) : EnvOk (E87 N) ents := Env.add_ok (E86_ok N) (laws_FnExactAxiomThatFails.en_ok N (E86_ok N))

noncomputable def spec_l03Code_s8.kp : Keeps := ⟨[(0, [1, 2, 5], 3)], [(0, [], 3)]⟩

noncomputable def spec_l03Code_s8.bd : Code := bodyOf Go.Proofs.Try.f36

noncomputable def spec_l03Code_s8.fin {ρ : Type} (N : Nat) (K : AV → Heap → Option ρ) (g4 : Nat → Int) : XE → St → Option ρ := finK (E87 N) Go.Proofs.Try.f36 [⟨false, .ints .u8 8 g4⟩] K

noncomputable def spec_l03Code_s8.k0 {ρ : Type} (N : Nat) (K : AV → Heap → Option ρ) (g4 : Nat → Int) : XE → St → Option ρ := (blockK spec_l03Code_s8.kp 1 0 (seqK (xcode (E87 N) ents spec_l03Code_s8.kp 1 N (cB (cB (cB spec_l03Code_s8.bd))) 0) (spec_l03Code_s8.fin N K g4)))

theorem spec_l03Code_s8.k0_mix {ρ : Type} (N : Nat) (K : AV → Heap → Option ρ) (g4 : Nat → Int) : mixK (spec_l03Code_s8.fin N K g4 .ret) (spec_l03Code_s8.k0 N K g4) = (spec_l03Code_s8.k0 N K g4) := by
  funext e s; cases e <;> rfl

noncomputable def spec_l03Code_s8.st0 (h0 : Nat → Int) (h1 : Nat → Int) (list2 : Nat) (list3 : Nat) (g4 : Nat → Int) (i6 : Int) : St := ⟨sl 25 [(1, .slice 0 0 list2 (some list3) 8), (2, .sptr [(1, 2), (2, 1104)]), (5, .int .i64 (i6))], [⟨false, .ints .u8 8 g4⟩, ⟨true, .ints .i64 2 h0⟩, ⟨true, .ints .u8 1104 h1⟩]⟩

noncomputable def spec_l03Code_s8.sx0_0 (h0 : Nat → Int) (h1 : Nat → Int) (g4 : Nat → Int) : St := ⟨sl 25 [], [⟨false, .ints .u8 8 g4⟩, ⟨true, .ints .i64 2 h0⟩, ⟨true, .ints .u8 1104 h1⟩]⟩

theorem spec_l03Code_s8.b0_gen {ρ : Type} (N : Nat) (K : AV → Heap → Option ρ) (L0 : St → Option ρ) (kv : XE → St → Option ρ) (h0 : Nat → Int) (h1 : Nat → Int) (list2 : Nat) (list3 : Nat) (g4 : Nat → Int) (i6 : Int) :
    xcode (E87 N) ents spec_l03Code_s8.kp 1 N (cL (cK (cB (cA (cB (cB spec_l03Code_s8.bd)))))) 0 (spec_l03Code_s8.st0 h0 h1 list2 list3 g4 i6) (roundK spec_l03Code_s8.kp 1 0 L0 (mixK (spec_l03Code_s8.fin N K g4 .ret) kv)) = (spec_l03Code_s8.b0 N (fun d0 => K (.int .i64 (d0)) [⟨false, .ints .u8 8 g4⟩]) (fun i6 => L0 (spec_l03Code_s8.st0 h0 h1 list2 list3 g4 i6)) (kv (.exit 0) (spec_l03Code_s8.sx0_0 h0 h1 g4)) h0 list2 g4 i6) := by kernel_rfl

theorem spec_l03Code_s8.b0_eq {ρ : Type} (N : Nat) (K : AV → Heap → Option ρ) (L0 : St → Option ρ) (h0 : Nat → Int) (h1 : Nat → Int) (list2 : Nat) (list3 : Nat) (g4 : Nat → Int) (i6 : Int) :
    xcode (E87 N) ents spec_l03Code_s8.kp 1 N (cL (cK (cB (cA (cB (cB spec_l03Code_s8.bd)))))) 0 (spec_l03Code_s8.st0 h0 h1 list2 list3 g4 i6) (roundK spec_l03Code_s8.kp 1 0 L0 (spec_l03Code_s8.k0 N K g4)) = (spec_l03Code_s8.b0 N (fun d0 => K (.int .i64 (d0)) [⟨false, .ints .u8 8 g4⟩]) (fun i6 => L0 (spec_l03Code_s8.st0 h0 h1 list2 list3 g4 i6)) ((spec_l03Code_s8.k0 N K g4) (.exit 0) (spec_l03Code_s8.sx0_0 h0 h1 g4)) h0 list2 g4 i6) := by
  have h := spec_l03Code_s8.b0_gen N K L0 (spec_l03Code_s8.k0 N K g4) h0 h1 list2 list3 g4 i6
  rw [spec_l03Code_s8.k0_mix] at h
  exact h

theorem spec_l03Code_s8.a0_0_eq {ρ : Type} (N : Nat) (K : AV → Heap → Option ρ) (h0 : Nat → Int) (h1 : Nat → Int) (g4 : Nat → Int) :
    (spec_l03Code_s8.k0 N K g4) (.exit 0) (spec_l03Code_s8.sx0_0 h0 h1 g4) = (spec_l03Code_s8.a0_0 N (fun d0 => K (.int .i64 (d0)) [⟨false, .ints .u8 8 g4⟩])) := by kernel_rfl

theorem spec_l03Code_s8.l0_eq {ρ : Type} (N : Nat) (K : AV → Heap → Option ρ) (h0 : Nat → Int) (h1 : Nat → Int) (list2 : Nat) (list3 : Nat) (g4 : Nat → Int) :
    ∀ (m : Nat) (i6 : Int), xloop (xcode (E87 N) ents spec_l03Code_s8.kp 1 N (cL (cK (cB (cA (cB (cB spec_l03Code_s8.bd)))))) 0) spec_l03Code_s8.kp 1 0 m (spec_l03Code_s8.st0 h0 h1 list2 list3 g4 i6) (spec_l03Code_s8.k0 N K g4) = (spec_l03Code_s8.l0 N (fun d0 => K (.int .i64 (d0)) [⟨false, .ints .u8 8 g4⟩]) h0 list2 g4 ((spec_l03Code_s8.k0 N K g4) (.exit 0) (spec_l03Code_s8.sx0_0 h0 h1 g4)) m i6) := by
  intro m
  induction m with
  | zero => intros; rfl
  | succ m ih =>
    intro i6
    refine (spec_l03Code_s8.b0_eq N K (fun s => xloop (xcode (E87 N) ents spec_l03Code_s8.kp 1 N (cL (cK (cB (cA (cB (cB spec_l03Code_s8.bd)))))) 0) spec_l03Code_s8.kp 1 0 m s (spec_l03Code_s8.k0 N K g4)) h0 h1 list2 list3 g4 i6).trans ?_
    simp only [ih]
    kernel_rfl

theorem spec_l03Code_s8.s_eq {ρ : Type} (N : Nat) (K : AV → Heap → Option ρ) (h0 : Nat → Int) (h1 : Nat → Int) (list2 : Nat) (list3 : Nat) (g4 : Nat → Int) :
    xbody (E87 N) ents spec_l03Code_s8.kp N Go.Proofs.Try.f36 spec_l03Code_s8.bd [.agg [⟨.i64, 2, h0⟩, ⟨.u8, 1104, h1⟩], .slice 0 0 list2 (some list3) 8] [⟨false, .ints .u8 8 g4⟩] K = (spec_l03Code_s8.s N (fun d0 => K (.int .i64 (d0)) [⟨false, .ints .u8 8 g4⟩]) (fun i6 => xloop (xcode (E87 N) ents spec_l03Code_s8.kp 1 N (cL (cK (cB (cA (cB (cB spec_l03Code_s8.bd)))))) 0) spec_l03Code_s8.kp 1 0 N (spec_l03Code_s8.st0 h0 h1 list2 list3 g4 i6) (spec_l03Code_s8.k0 N K g4)) h0 h1) := by kernel_rfl

theorem spec_l03Code_s8.eq {ρ : Type} (N : Nat) (K : AV → Heap → Option ρ) (h0 : Nat → Int) (h1 : Nat → Int) (list2 : Nat) (list3 : Nat) (g4 : Nat → Int) :
    xbody (E87 N) ents spec_l03Code_s8.kp N Go.Proofs.Try.f36 spec_l03Code_s8.bd [.agg [⟨.i64, 2, h0⟩, ⟨.u8, 1104, h1⟩], .slice 0 0 list2 (some list3) 8] [⟨false, .ints .u8 8 g4⟩] K = (spec_l03Code_s8 N (fun d0 => K (.int .i64 (d0)) [⟨false, .ints .u8 8 g4⟩]) h0 h1 list2 list3 g4) := by
  refine (spec_l03Code_s8.s_eq N K h0 h1 list2 list3 g4).trans ?_
  simp only [spec_l03Code_s8.l0_eq, spec_l03Code_s8.a0_0_eq]
  kernel_rfl

noncomputable def spec_l03Code_s8.en (N : Nat) (ρ : Type) : List AV → Heap → (AV → Heap → Option ρ) → Option ρ
  | [.agg [⟨.i64, 2, h0⟩, ⟨.u8, 1104, h1⟩], .slice 0 0 list2 (some list3) 8], [⟨false, .ints .u8 8 g4⟩], K => (spec_l03Code_s8 N (fun d0 => K (.int .i64 (d0)) [⟨false, .ints .u8 8 g4⟩]) h0 h1 list2 list3 g4)
  | _, _, _ => none

theorem spec_l03Code_s8.en_ok (N : Nat) (hE : EnvOk (E87 N) ents) (ρ : Type) (args : List AV) (sh : Heap) (K : AV → Heap → Option ρ) (r : ρ) (h : spec_l03Code_s8.en N ρ args sh K = some r) : ∃ v sh', K v sh' = some r ∧ FnOk (E87 N).P 36 args sh v sh' := by
  unfold spec_l03Code_s8.en at h
  split at h
  · exact fn_ok hE (kp := spec_l03Code_s8.kp) (N := N) Go.Proofs.Try.func36 (c := spec_l03Code_s8.bd) (by kernel_rfl) ((spec_l03Code_s8.eq N _ _ _ _ _ _).trans h)
  · cases h

noncomputable def E88 (N : Nat) : Env := (E87 N).add 36 (spec_l03Code_s8.en N)

theorem E88_ok (N : Nat) : EnvOk (E88 N) ents := Env.add_ok (E87_ok N) (spec_l03Code_s8.en_ok N (E87_ok N))

noncomputable def spec_CounitOf.kp : Keeps := ⟨[], []⟩

noncomputable def spec_CounitOf.bd : Code := bodyOf Go.Proofs.Try.f15

noncomputable def spec_CounitOf.fin {ρ : Type} (N : Nat) (K : AV → Heap → Option ρ) : XE → St → Option ρ := finK (E88 N) Go.Proofs.Try.f15 [] K

theorem spec_CounitOf.eq {ρ : Type} (N : Nat) (K : AV → Heap → Option ρ) (h0 : Nat → Int) (h1 : Nat → Int) (v2 : Nat → Int) :
    xbody (E88 N) ents spec_CounitOf.kp N Go.Proofs.Try.f15 spec_CounitOf.bd [.agg [⟨.i64, 2, h0⟩, ⟨.u8, 1104, h1⟩], .agg [⟨.u8, 8, v2⟩]] [] K = (spec_CounitOf N (fun d0 d1 => K (.tup [.int .i64 (d0), .int .i64 (d1)]) []) h0 h1 v2) := by kernel_rfl

noncomputable def spec_CounitOf.en (N : Nat) (ρ : Type) : List AV → Heap → (AV → Heap → Option ρ) → Option ρ
  | [.agg [⟨.i64, 2, h0⟩, ⟨.u8, 1104, h1⟩], .agg [⟨.u8, 8, v2⟩]], [], K => (spec_CounitOf N (fun d0 d1 => K (.tup [.int .i64 (d0), .int .i64 (d1)]) []) h0 h1 v2)
  | _, _, _ => none

theorem spec_CounitOf.en_ok (N : Nat) (hE : EnvOk (E88 N) ents) (ρ : Type) (args : List AV) (sh : Heap) (K : AV → Heap → Option ρ) (r : ρ) (h : spec_CounitOf.en N ρ args sh K = some r) : ∃ v sh', K v sh' = some r ∧ FnOk (E88 N).P 15 args sh v sh' := by
  unfold spec_CounitOf.en at h
  split at h
  · exact fn_ok hE (kp := spec_CounitOf.kp) (N := N) Go.Proofs.Try.func15 (c := spec_CounitOf.bd) (by kernel_rfl) ((spec_CounitOf.eq N _ _ _ _).trans h)
  · cases h

noncomputable def E89 (N : Nat) : Env := (E88 N).add 15 (spec_CounitOf.en N)

theorem E89_ok (N : Nat) : EnvOk (E89 N) ents := Env.add_ok (E88_ok N) (spec_CounitOf.en_ok N (E88_ok N))

noncomputable def impl_Hopf_has_c1.kp : Keeps := ⟨[], []⟩

noncomputable def impl_Hopf_has_c1.bd : Code := bodyOf Go.Proofs.Try.f96

noncomputable def impl_Hopf_has_c1.fin {ρ : Type} (N : Nat) (K : AV → Heap → Option ρ) (g1 : Nat → Int) (g2 : Nat → Int) : XE → St → Option ρ := finK (E89 N) Go.Proofs.Try.f96 [⟨false, .avs [.sptr [(1, 2), (2, 1104)]]⟩, ⟨false, .ints .i64 2 g1⟩, ⟨false, .ints .u8 1104 g2⟩] K

theorem impl_Hopf_has_c1.eq {ρ : Type} (N : Nat) (K : AV → Heap → Option ρ) (v0 : Nat → Int) (g1 : Nat → Int) (g2 : Nat → Int) :
    xbody (E89 N) ents impl_Hopf_has_c1.kp N Go.Proofs.Try.f96 impl_Hopf_has_c1.bd [.agg [⟨.u8, 8, v0⟩], .sptr [(0, 1)]] [⟨false, .avs [.sptr [(1, 2), (2, 1104)]]⟩, ⟨false, .ints .i64 2 g1⟩, ⟨false, .ints .u8 1104 g2⟩] K = (impl_Hopf_has_c1 N (fun d0 => K (.bool (d0)) [⟨false, .avs [.sptr [(1, 2), (2, 1104)]]⟩, ⟨false, .ints .i64 2 g1⟩, ⟨false, .ints .u8 1104 g2⟩]) v0 g1 g2) := by kernel_rfl

noncomputable def impl_Hopf_has_c1.en (N : Nat) (ρ : Type) : List AV → Heap → (AV → Heap → Option ρ) → Option ρ
  | [.agg [⟨.u8, 8, v0⟩], .sptr [(0, 1)]], [⟨false, .avs [.sptr [(1, 2), (2, 1104)]]⟩, ⟨false, .ints .i64 2 g1⟩, ⟨false, .ints .u8 1104 g2⟩], K => (impl_Hopf_has_c1 N (fun d0 => K (.bool (d0)) [⟨false, .avs [.sptr [(1, 2), (2, 1104)]]⟩, ⟨false, .ints .i64 2 g1⟩, ⟨false, .ints .u8 1104 g2⟩]) v0 g1 g2)
  | _, _, _ => none

theorem impl_Hopf_has_c1.en_ok (N : Nat) (hE : EnvOk (E89 N) ents) (ρ : Type) (args : List AV) (sh : Heap) (K : AV → Heap → Option ρ) (r : ρ) (h : impl_Hopf_has_c1.en N ρ args sh K = some r) : ∃ v sh', K v sh' = some r ∧ FnOk (E89 N).P 96 args sh v sh' := by
  unfold impl_Hopf_has_c1.en at h
  split at h
  · exact fn_ok hE (kp := impl_Hopf_has_c1.kp) (N := N) Go.Proofs.Try.func96 (c := impl_Hopf_has_c1.bd) (by kernel_rfl) ((impl_Hopf_has_c1.eq N _ _ _ _).trans h)
  · cases h

noncomputable def E90 (N : Nat) : Env := (E89 N).add 96 (impl_Hopf_has_c1.en N)

theorem E90_ok (N : Nat) : EnvOk (E90 N) ents := Env.add_ok (E89_ok N) (impl_Hopf_has_c1.en_ok N (E89_ok N))

noncomputable def slices_IndexFunc_sf.kp : Keeps := ⟨[(0, [0, 1, 7, 8], 4)], [(0, [], 4)]⟩

noncomputable def slices_IndexFunc_sf.bd : Code := bodyOf Go.Proofs.Try.f114

noncomputable def slices_IndexFunc_sf.fin {ρ : Type} (N : Nat) (K : AV → Heap → Option ρ) (g2 : Nat) (g3 : Nat → Int) (g4 : Nat → Int) (g5 : Nat → Int) : XE → St → Option ρ := finK (E90 N) Go.Proofs.Try.f114 [⟨false, .ints .u8 g2 g3⟩, ⟨false, .avs [.sptr [(2, 2), (3, 1104)]]⟩, ⟨false, .ints .i64 2 g4⟩, ⟨false, .ints .u8 1104 g5⟩] K

noncomputable def slices_IndexFunc_sf.k0 {ρ : Type} (N : Nat) (K : AV → Heap → Option ρ) (g2 : Nat) (g3 : Nat → Int) (g4 : Nat → Int) (g5 : Nat → Int) : XE → St → Option ρ := (blockK slices_IndexFunc_sf.kp 4 0 (seqK (xcode (E90 N) ents slices_IndexFunc_sf.kp 4 N (cB (cB slices_IndexFunc_sf.bd)) 0) (slices_IndexFunc_sf.fin N K g2 g3 g4 g5)))

theorem slices_IndexFunc_sf.k0_mix {ρ : Type} (N : Nat) (K : AV → Heap → Option ρ) (g2 : Nat) (g3 : Nat → Int) (g4 : Nat → Int) (g5 : Nat → Int) : mixK (slices_IndexFunc_sf.fin N K g2 g3 g4 g5 .ret) (slices_IndexFunc_sf.k0 N K g2 g3 g4 g5) = (slices_IndexFunc_sf.k0 N K g2 g3 g4 g5) := by
  funext e s; cases e <;> rfl

noncomputable def slices_IndexFunc_sf.st0 (s0 : Nat) (s1 : Nat) (g2 : Nat) (g3 : Nat → Int) (g4 : Nat → Int) (g5 : Nat → Int) (x6 : Int) : St := ⟨sl 19 [(0, .slice 0 0 s0 (some s1) 8), (1, .fn 96 0 [[(1, 1)]]), (7, .int .i64 ((s0 : Int))), (8, .int .i64 (x6))], [⟨false, .ints .u8 g2 g3⟩, ⟨false, .avs [.sptr [(2, 2), (3, 1104)]]⟩, ⟨false, .ints .i64 2 g4⟩, ⟨false, .ints .u8 1104 g5⟩]⟩

noncomputable def slices_IndexFunc_sf.sx0_0 (g2 : Nat) (g3 : Nat → Int) (g4 : Nat → Int) (g5 : Nat → Int) : St := ⟨sl 19 [], [⟨false, .ints .u8 g2 g3⟩, ⟨false, .avs [.sptr [(2, 2), (3, 1104)]]⟩, ⟨false, .ints .i64 2 g4⟩, ⟨false, .ints .u8 1104 g5⟩]⟩

theorem slices_IndexFunc_sf.b0_gen {ρ : Type} (N : Nat) (K : AV → Heap → Option ρ) (L0 : St → Option ρ) (kv : XE → St → Option ρ) (s0 : Nat) (s1 : Nat) (g2 : Nat) (g3 : Nat → Int) (g4 : Nat → Int) (g5 : Nat → Int) (x6 : Int) :
    xcode (E90 N) ents slices_IndexFunc_sf.kp 4 N (cL (cK (cB (cA (cB slices_IndexFunc_sf.bd))))) 0 (slices_IndexFunc_sf.st0 s0 s1 g2 g3 g4 g5 x6) (roundK slices_IndexFunc_sf.kp 4 0 L0 (mixK (slices_IndexFunc_sf.fin N K g2 g3 g4 g5 .ret) kv)) = (slices_IndexFunc_sf.b0 N (fun d0 => K (.int .i64 (d0)) [⟨false, .ints .u8 g2 g3⟩, ⟨false, .avs [.sptr [(2, 2), (3, 1104)]]⟩, ⟨false, .ints .i64 2 g4⟩, ⟨false, .ints .u8 1104 g5⟩]) (fun x6 => L0 (slices_IndexFunc_sf.st0 s0 s1 g2 g3 g4 g5 x6)) (kv (.exit 0) (slices_IndexFunc_sf.sx0_0 g2 g3 g4 g5)) s0 g3 g4 g5 x6) := by kernel_rfl

theorem slices_IndexFunc_sf.b0_eq {ρ : Type} (N : Nat) (K : AV → Heap → Option ρ) (L0 : St → Option ρ) (s0 : Nat) (s1 : Nat) (g2 : Nat) (g3 : Nat → Int) (g4 : Nat → Int) (g5 : Nat → Int) (x6 : Int) :
    xcode (E90 N) ents slices_IndexFunc_sf.kp 4 N (cL (cK (cB (cA (cB slices_IndexFunc_sf.bd))))) 0 (slices_IndexFunc_sf.st0 s0 s1 g2 g3 g4 g5 x6) (roundK slices_IndexFunc_sf.kp 4 0 L0 (slices_IndexFunc_sf.k0 N K g2 g3 g4 g5)) = (slices_IndexFunc_sf.b0 N (fun d0 => K (.int .i64 (d0)) [⟨false, .ints .u8 g2 g3⟩, ⟨false, .avs [.sptr [(2, 2), (3, 1104)]]⟩, ⟨false, .ints .i64 2 g4⟩, ⟨false, .ints .u8 1104 g5⟩]) (fun x6 => L0 (slices_IndexFunc_sf.st0 s0 s1 g2 g3 g4 g5 x6)) ((slices_IndexFunc_sf.k0 N K g2 g3 g4 g5) (.exit 0) (slices_IndexFunc_sf.sx0_0 g2 g3 g4 g5)) s0 g3 g4 g5 x6) := by
  have h := slices_IndexFunc_sf.b0_gen N K L0 (slices_IndexFunc_sf.k0 N K g2 g3 g4 g5) s0 s1 g2 g3 g4 g5 x6
  rw [slices_IndexFunc_sf.k0_mix] at h
  exact h

theorem slices_IndexFunc_sf.a0_0_eq {ρ : Type} (N : Nat) (K : AV → Heap → Option ρ) (g2 : Nat) (g3 : Nat → Int) (g4 : Nat → Int) (g5 : Nat → Int) :
    (slices_IndexFunc_sf.k0 N K g2 g3 g4 g5) (.exit 0) (slices_IndexFunc_sf.sx0_0 g2 g3 g4 g5) = (slices_IndexFunc_sf.a0_0 N (fun d0 => K (.int .i64 (d0)) [⟨false, .ints .u8 g2 g3⟩, ⟨false, .avs [.sptr [(2, 2), (3, 1104)]]⟩, ⟨false, .ints .i64 2 g4⟩, ⟨false, .ints .u8 1104 g5⟩])) := by kernel_rfl

theorem slices_IndexFunc_sf.l0_eq {ρ : Type} (N : Nat) (K : AV → Heap → Option ρ) (s0 : Nat) (s1 : Nat) (g2 : Nat) (g3 : Nat → Int) (g4 : Nat → Int) (g5 : Nat → Int) :
    ∀ (m : Nat) (x6 : Int), xloop (xcode (E90 N) ents slices_IndexFunc_sf.kp 4 N (cL (cK (cB (cA (cB slices_IndexFunc_sf.bd))))) 0) slices_IndexFunc_sf.kp 4 0 m (slices_IndexFunc_sf.st0 s0 s1 g2 g3 g4 g5 x6) (slices_IndexFunc_sf.k0 N K g2 g3 g4 g5) = (slices_IndexFunc_sf.l0 N (fun d0 => K (.int .i64 (d0)) [⟨false, .ints .u8 g2 g3⟩, ⟨false, .avs [.sptr [(2, 2), (3, 1104)]]⟩, ⟨false, .ints .i64 2 g4⟩, ⟨false, .ints .u8 1104 g5⟩]) s0 g3 g4 g5 ((slices_IndexFunc_sf.k0 N K g2 g3 g4 g5) (.exit 0) (slices_IndexFunc_sf.sx0_0 g2 g3 g4 g5)) m x6) := by
  intro m
  induction m with
  | zero => intros; rfl
  | succ m ih =>
    intro x6
    refine (slices_IndexFunc_sf.b0_eq N K (fun s => xloop (xcode (E90 N) ents slices_IndexFunc_sf.kp 4 N (cL (cK (cB (cA (cB slices_IndexFunc_sf.bd))))) 0) slices_IndexFunc_sf.kp 4 0 m s (slices_IndexFunc_sf.k0 N K g2 g3 g4 g5)) s0 s1 g2 g3 g4 g5 x6).trans ?_
    simp only [ih]
    kernel_rfl

theorem slices_IndexFunc_sf.s_eq {ρ : Type} (N : Nat) (K : AV → Heap → Option ρ) (s0 : Nat) (s1 : Nat) (g2 : Nat) (g3 : Nat → Int) (g4 : Nat → Int) (g5 : Nat → Int) :
    xbody (E90 N) ents slices_IndexFunc_sf.kp N Go.Proofs.Try.f114 slices_IndexFunc_sf.bd [.slice 0 0 s0 (some s1) 8, .fn 96 0 [[(1, 1)]]] [⟨false, .ints .u8 g2 g3⟩, ⟨false, .avs [.sptr [(2, 2), (3, 1104)]]⟩, ⟨false, .ints .i64 2 g4⟩, ⟨false, .ints .u8 1104 g5⟩] K = (slices_IndexFunc_sf.s N (fun d0 => K (.int .i64 (d0)) [⟨false, .ints .u8 g2 g3⟩, ⟨false, .avs [.sptr [(2, 2), (3, 1104)]]⟩, ⟨false, .ints .i64 2 g4⟩, ⟨false, .ints .u8 1104 g5⟩]) (fun x6 => xloop (xcode (E90 N) ents slices_IndexFunc_sf.kp 4 N (cL (cK (cB (cA (cB slices_IndexFunc_sf.bd))))) 0) slices_IndexFunc_sf.kp 4 0 N (slices_IndexFunc_sf.st0 s0 s1 g2 g3 g4 g5 x6) (slices_IndexFunc_sf.k0 N K g2 g3 g4 g5))) := by kernel_rfl

theorem slices_IndexFunc_sf.eq {ρ : Type} (N : Nat) (K : AV → Heap → Option ρ) (s0 : Nat) (s1 : Nat) (g2 : Nat) (g3 : Nat → Int) (g4 : Nat → Int) (g5 : Nat → Int) :
    xbody (E90 N) ents slices_IndexFunc_sf.kp N Go.Proofs.Try.f114 slices_IndexFunc_sf.bd [.slice 0 0 s0 (some s1) 8, .fn 96 0 [[(1, 1)]]] [⟨false, .ints .u8 g2 g3⟩, ⟨false, .avs [.sptr [(2, 2), (3, 1104)]]⟩, ⟨false, .ints .i64 2 g4⟩, ⟨false, .ints .u8 1104 g5⟩] K = (slices_IndexFunc_sf N (fun d0 => K (.int .i64 (d0)) [⟨false, .ints .u8 g2 g3⟩, ⟨false, .avs [.sptr [(2, 2), (3, 1104)]]⟩, ⟨false, .ints .i64 2 g4⟩, ⟨false, .ints .u8 1104 g5⟩]) s0 s1 g2 g3 g4 g5) := by
  refine (slices_IndexFunc_sf.s_eq N K s0 s1 g2 g3 g4 g5).trans ?_
  simp only [slices_IndexFunc_sf.l0_eq, slices_IndexFunc_sf.a0_0_eq]
  kernel_rfl

noncomputable def slices_IndexFunc_nf.kp : Keeps := ⟨[(0, [0, 1, 7, 8], 3)], [(0, [], 3)]⟩

noncomputable def slices_IndexFunc_nf.bd : Code := bodyOf Go.Proofs.Try.f114

noncomputable def slices_IndexFunc_nf.fin {ρ : Type} (N : Nat) (K : AV → Heap → Option ρ) (g0 : Nat → Int) (g1 : Nat → Int) : XE → St → Option ρ := finK (E90 N) Go.Proofs.Try.f114 [⟨false, .avs [.sptr [(1, 2), (2, 1104)]]⟩, ⟨false, .ints .i64 2 g0⟩, ⟨false, .ints .u8 1104 g1⟩] K

noncomputable def slices_IndexFunc_nf.k0 {ρ : Type} (N : Nat) (K : AV → Heap → Option ρ) (g0 : Nat → Int) (g1 : Nat → Int) : XE → St → Option ρ := (blockK slices_IndexFunc_nf.kp 3 0 (seqK (xcode (E90 N) ents slices_IndexFunc_nf.kp 3 N (cB (cB slices_IndexFunc_nf.bd)) 0) (slices_IndexFunc_nf.fin N K g0 g1)))

theorem slices_IndexFunc_nf.k0_mix {ρ : Type} (N : Nat) (K : AV → Heap → Option ρ) (g0 : Nat → Int) (g1 : Nat → Int) : mixK (slices_IndexFunc_nf.fin N K g0 g1 .ret) (slices_IndexFunc_nf.k0 N K g0 g1) = (slices_IndexFunc_nf.k0 N K g0 g1) := by
  funext e s; cases e <;> rfl

noncomputable def slices_IndexFunc_nf.st0 (g0 : Nat → Int) (g1 : Nat → Int) : St := ⟨sl 19 [(0, .nils), (1, .fn 96 0 [[(0, 1)]]), (7, .int .i64 0), (8, .int .i64 0)], [⟨false, .avs [.sptr [(1, 2), (2, 1104)]]⟩, ⟨false, .ints .i64 2 g0⟩, ⟨false, .ints .u8 1104 g1⟩]⟩

noncomputable def slices_IndexFunc_nf.sx0_0 (g0 : Nat → Int) (g1 : Nat → Int) : St := ⟨sl 19 [], [⟨false, .avs [.sptr [(1, 2), (2, 1104)]]⟩, ⟨false, .ints .i64 2 g0⟩, ⟨false, .ints .u8 1104 g1⟩]⟩

theorem slices_IndexFunc_nf.b0_gen {ρ : Type} (N : Nat) (K : AV → Heap → Option ρ) (L0 : St → Option ρ) (kv : XE → St → Option ρ) (g0 : Nat → Int) (g1 : Nat → Int) :
    xcode (E90 N) ents slices_IndexFunc_nf.kp 3 N (cL (cK (cB (cA (cB slices_IndexFunc_nf.bd))))) 0 (slices_IndexFunc_nf.st0 g0 g1) (roundK slices_IndexFunc_nf.kp 3 0 L0 (mixK (slices_IndexFunc_nf.fin N K g0 g1 .ret) kv)) = (slices_IndexFunc_nf.b0 N (fun d0 => K (.int .i64 (d0)) [⟨false, .avs [.sptr [(1, 2), (2, 1104)]]⟩, ⟨false, .ints .i64 2 g0⟩, ⟨false, .ints .u8 1104 g1⟩]) (L0 (slices_IndexFunc_nf.st0 g0 g1)) (kv (.exit 0) (slices_IndexFunc_nf.sx0_0 g0 g1))) := by kernel_rfl

theorem slices_IndexFunc_nf.b0_eq {ρ : Type} (N : Nat) (K : AV → Heap → Option ρ) (L0 : St → Option ρ) (g0 : Nat → Int) (g1 : Nat → Int) :
    xcode (E90 N) ents slices_IndexFunc_nf.kp 3 N (cL (cK (cB (cA (cB slices_IndexFunc_nf.bd))))) 0 (slices_IndexFunc_nf.st0 g0 g1) (roundK slices_IndexFunc_nf.kp 3 0 L0 (slices_IndexFunc_nf.k0 N K g0 g1)) = (slices_IndexFunc_nf.b0 N (fun d0 => K (.int .i64 (d0)) [⟨false, .avs [.sptr [(1, 2), (2, 1104)]]⟩, ⟨false, .ints .i64 2 g0⟩, ⟨false, .ints .u8 1104 g1⟩]) (L0 (slices_IndexFunc_nf.st0 g0 g1)) ((slices_IndexFunc_nf.k0 N K g0 g1) (.exit 0) (slices_IndexFunc_nf.sx0_0 g0 g1))) := by
  have h := slices_IndexFunc_nf.b0_gen N K L0 (slices_IndexFunc_nf.k0 N K g0 g1) g0 g1
  rw [slices_IndexFunc_nf.k0_mix] at h
  exact h

theorem slices_IndexFunc_nf.a0_0_eq {ρ : Type} (N : Nat) (K : AV → Heap → Option ρ) (g0 : Nat → Int) (g1 : Nat → Int) :
    (slices_IndexFunc_nf.k0 N K g0 g1) (.exit 0) (slices_IndexFunc_nf.sx0_0 g0 g1) = (slices_IndexFunc_nf.a0_0 N (fun d0 => K (.int .i64 (d0)) [⟨false, .avs [.sptr [(1, 2), (2, 1104)]]⟩, ⟨false, .ints .i64 2 g0⟩, ⟨false, .ints .u8 1104 g1⟩])) := by kernel_rfl

theorem slices_IndexFunc_nf.l0_eq {ρ : Type} (N : Nat) (K : AV → Heap → Option ρ) (g0 : Nat → Int) (g1 : Nat → Int) :
    ∀ (m : Nat), xloop (xcode (E90 N) ents slices_IndexFunc_nf.kp 3 N (cL (cK (cB (cA (cB slices_IndexFunc_nf.bd))))) 0) slices_IndexFunc_nf.kp 3 0 m (slices_IndexFunc_nf.st0 g0 g1) (slices_IndexFunc_nf.k0 N K g0 g1) = (slices_IndexFunc_nf.l0 N (fun d0 => K (.int .i64 (d0)) [⟨false, .avs [.sptr [(1, 2), (2, 1104)]]⟩, ⟨false, .ints .i64 2 g0⟩, ⟨false, .ints .u8 1104 g1⟩]) ((slices_IndexFunc_nf.k0 N K g0 g1) (.exit 0) (slices_IndexFunc_nf.sx0_0 g0 g1)) m) := by
  intro m
  induction m with
  | zero => intros; rfl
  | succ m ih =>
    refine (slices_IndexFunc_nf.b0_eq N K (fun s => xloop (xcode (E90 N) ents slices_IndexFunc_nf.kp 3 N (cL (cK (cB (cA (cB slices_IndexFunc_nf.bd))))) 0) slices_IndexFunc_nf.kp 3 0 m s (slices_IndexFunc_nf.k0 N K g0 g1)) g0 g1).trans ?_
    simp only [ih]
    kernel_rfl

theorem slices_IndexFunc_nf.s_eq {ρ : Type} (N : Nat) (K : AV → Heap → Option ρ) (g0 : Nat → Int) (g1 : Nat → Int) :
    xbody (E90 N) ents slices_IndexFunc_nf.kp N Go.Proofs.Try.f114 slices_IndexFunc_nf.bd [.nils, .fn 96 0 [[(0, 1)]]] [⟨false, .avs [.sptr [(1, 2), (2, 1104)]]⟩, ⟨false, .ints .i64 2 g0⟩, ⟨false, .ints .u8 1104 g1⟩] K = (slices_IndexFunc_nf.s N (fun d0 => K (.int .i64 (d0)) [⟨false, .avs [.sptr [(1, 2), (2, 1104)]]⟩, ⟨false, .ints .i64 2 g0⟩, ⟨false, .ints .u8 1104 g1⟩]) (xloop (xcode (E90 N) ents slices_IndexFunc_nf.kp 3 N (cL (cK (cB (cA (cB slices_IndexFunc_nf.bd))))) 0) slices_IndexFunc_nf.kp 3 0 N (slices_IndexFunc_nf.st0 g0 g1) (slices_IndexFunc_nf.k0 N K g0 g1))) := by kernel_rfl

theorem slices_IndexFunc_nf.eq {ρ : Type} (N : Nat) (K : AV → Heap → Option ρ) (g0 : Nat → Int) (g1 : Nat → Int) :
    xbody (E90 N) ents slices_IndexFunc_nf.kp N Go.Proofs.Try.f114 slices_IndexFunc_nf.bd [.nils, .fn 96 0 [[(0, 1)]]] [⟨false, .avs [.sptr [(1, 2), (2, 1104)]]⟩, ⟨false, .ints .i64 2 g0⟩, ⟨false, .ints .u8 1104 g1⟩] K = (slices_IndexFunc_nf N (fun d0 => K (.int .i64 (d0)) [⟨false, .avs [.sptr [(1, 2), (2, 1104)]]⟩, ⟨false, .ints .i64 2 g0⟩, ⟨false, .ints .u8 1104 g1⟩]) g0 g1) := by
  refine (slices_IndexFunc_nf.s_eq N K g0 g1).trans ?_
  simp only [slices_IndexFunc_nf.l0_eq, slices_IndexFunc_nf.a0_0_eq]
  kernel_rfl

noncomputable def slices_IndexFunc_sf.en (N : Nat) (ρ : Type) : List AV → Heap → (AV → Heap → Option ρ) → Option ρ
  | [.slice 0 0 s0 (some s1) 8, .fn 96 0 [[(1, 1)]]], [⟨false, .ints .u8 g2 g3⟩, ⟨false, .avs [.sptr [(2, 2), (3, 1104)]]⟩, ⟨false, .ints .i64 2 g4⟩, ⟨false, .ints .u8 1104 g5⟩], K => (slices_IndexFunc_sf N (fun d0 => K (.int .i64 (d0)) [⟨false, .ints .u8 g2 g3⟩, ⟨false, .avs [.sptr [(2, 2), (3, 1104)]]⟩, ⟨false, .ints .i64 2 g4⟩, ⟨false, .ints .u8 1104 g5⟩]) s0 s1 g2 g3 g4 g5)
  | [.nils, .fn 96 0 [[(0, 1)]]], [⟨false, .avs [.sptr [(1, 2), (2, 1104)]]⟩, ⟨false, .ints .i64 2 g0⟩, ⟨false, .ints .u8 1104 g1⟩], K => (slices_IndexFunc_nf N (fun d0 => K (.int .i64 (d0)) [⟨false, .avs [.sptr [(1, 2), (2, 1104)]]⟩, ⟨false, .ints .i64 2 g0⟩, ⟨false, .ints .u8 1104 g1⟩]) g0 g1)
  | _, _, _ => none

theorem slices_IndexFunc_sf.en_ok (N : Nat) (hE : EnvOk (E90 N) ents) (ρ : Type) (args : List AV) (sh : Heap) (K : AV → Heap → Option ρ) (r : ρ) (h : slices_IndexFunc_sf.en N ρ args sh K = some r) : ∃ v sh', K v sh' = some r ∧ FnOk (E90 N).P 114 args sh v sh' := by
  unfold slices_IndexFunc_sf.en at h
  split at h
  · exact fn_ok hE (kp := slices_IndexFunc_sf.kp) (N := N) Go.Proofs.Try.func114 (c := slices_IndexFunc_sf.bd) (by kernel_rfl) ((slices_IndexFunc_sf.eq N _ _ _ _ _ _ _).trans h)
  · exact fn_ok hE (kp := slices_IndexFunc_nf.kp) (N := N) Go.Proofs.Try.func114 (c := slices_IndexFunc_nf.bd) (by kernel_rfl) ((slices_IndexFunc_nf.eq N _ _ _).trans h)
  · cases h

noncomputable def E91 (N : Nat) : Env := (E90 N).add 114 (slices_IndexFunc_sf.en N)

theorem E91_ok (N : Nat) : EnvOk (E91 N) ents := Env.add_ok (E90_ok N) (slices_IndexFunc_sf.en_ok N (E90_ok N))

noncomputable def slices_ContainsFunc_sf.kp : Keeps := ⟨[], []⟩

noncomputable def slices_ContainsFunc_sf.bd : Code := bodyOf Go.Proofs.Try.f95

noncomputable def slices_ContainsFunc_sf.fin {ρ : Type} (N : Nat) (K : AV → Heap → Option ρ) (g2 : Nat) (g3 : Nat → Int) (g4 : Nat → Int) (g5 : Nat → Int) : XE → St → Option ρ := finK (E91 N) Go.Proofs.Try.f95 [⟨false, .ints .u8 g2 g3⟩, ⟨false, .avs [.sptr [(2, 2), (3, 1104)]]⟩, ⟨false, .ints .i64 2 g4⟩, ⟨false, .ints .u8 1104 g5⟩] K

theorem slices_ContainsFunc_sf.eq {ρ : Type} (N : Nat) (K : AV → Heap → Option ρ) (s0 : Nat) (s1 : Nat) (g2 : Nat) (g3 : Nat → Int) (g4 : Nat → Int) (g5 : Nat → Int) :
    xbody (E91 N) ents slices_ContainsFunc_sf.kp N Go.Proofs.Try.f95 slices_ContainsFunc_sf.bd [.slice 0 0 s0 (some s1) 8, .fn 96 0 [[(1, 1)]]] [⟨false, .ints .u8 g2 g3⟩, ⟨false, .avs [.sptr [(2, 2), (3, 1104)]]⟩, ⟨false, .ints .i64 2 g4⟩, ⟨false, .ints .u8 1104 g5⟩] K = (slices_ContainsFunc_sf N (fun d0 => K (.bool (d0)) [⟨false, .ints .u8 g2 g3⟩, ⟨false, .avs [.sptr [(2, 2), (3, 1104)]]⟩, ⟨false, .ints .i64 2 g4⟩, ⟨false, .ints .u8 1104 g5⟩]) s0 s1 g2 g3 g4 g5) := by kernel_rfl

noncomputable def slices_ContainsFunc_nf.kp : Keeps := ⟨[], []⟩

noncomputable def slices_ContainsFunc_nf.bd : Code := bodyOf Go.Proofs.Try.f95

noncomputable def slices_ContainsFunc_nf.fin {ρ : Type} (N : Nat) (K : AV → Heap → Option ρ) (g0 : Nat → Int) (g1 : Nat → Int) : XE → St → Option ρ := finK (E91 N) Go.Proofs.Try.f95 [⟨false, .avs [.sptr [(1, 2), (2, 1104)]]⟩, ⟨false, .ints .i64 2 g0⟩, ⟨false, .ints .u8 1104 g1⟩] K

theorem slices_ContainsFunc_nf.eq {ρ : Type} (N : Nat) (K : AV → Heap → Option ρ) (g0 : Nat → Int) (g1 : Nat → Int) :
    xbody (E91 N) ents slices_ContainsFunc_nf.kp N Go.Proofs.Try.f95 slices_ContainsFunc_nf.bd [.nils, .fn 96 0 [[(0, 1)]]] [⟨false, .avs [.sptr [(1, 2), (2, 1104)]]⟩, ⟨false, .ints .i64 2 g0⟩, ⟨false, .ints .u8 1104 g1⟩] K = (slices_ContainsFunc_nf N (fun d0 => K (.bool (d0)) [⟨false, .avs [.sptr [(1, 2), (2, 1104)]]⟩, ⟨false, .ints .i64 2 g0⟩, ⟨false, .ints .u8 1104 g1⟩]) g0 g1) := by kernel_rfl

noncomputable def slices_ContainsFunc_sf.en (N : Nat) (ρ : Type) : List AV → Heap → (AV → Heap → Option ρ) → Option ρ
  | [.slice 0 0 s0 (some s1) 8, .fn 96 0 [[(1, 1)]]], [⟨false, .ints .u8 g2 g3⟩, ⟨false, .avs [.sptr [(2, 2), (3, 1104)]]⟩, ⟨false, .ints .i64 2 g4⟩, ⟨false, .ints .u8 1104 g5⟩], K => (slices_ContainsFunc_sf N (fun d0 => K (.bool (d0)) [⟨false, .ints .u8 g2 g3⟩, ⟨false, .avs [.sptr [(2, 2), (3, 1104)]]⟩, ⟨false, .ints .i64 2 g4⟩, ⟨false, .ints .u8 1104 g5⟩]) s0 s1 g2 g3 g4 g5)
  | [.nils, .fn 96 0 [[(0, 1)]]], [⟨false, .avs [.sptr [(1, 2), (2, 1104)]]⟩, ⟨false, .ints .i64 2 g0⟩, ⟨false, .ints .u8 1104 g1⟩], K => (slices_ContainsFunc_nf N (fun d0 => K (.bool (d0)) [⟨false, .avs [.sptr [(1, 2), (2, 1104)]]⟩, ⟨false, .ints .i64 2 g0⟩, ⟨false, .ints .u8 1104 g1⟩]) g0 g1)
  | _, _, _ => none

theorem slices_ContainsFunc_sf.en_ok (N : Nat) (hE : EnvOk (E91 N) ents) (ρ : Type) (args : List AV) (sh : Heap) (K : AV → Heap → Option ρ) (r : ρ) (h : slices_ContainsFunc_sf.en N ρ args sh K = some r) : ∃ v sh', K v sh' = some r ∧ FnOk (E91 N).P 95 args sh v sh' := by
  unfold slices_ContainsFunc_sf.en at h
  split at h
  · exact fn_ok hE (kp := slices_ContainsFunc_sf.kp) (N := N) Go.Proofs.Try.func95 (c := slices_ContainsFunc_sf.bd) (by kernel_rfl) ((slices_ContainsFunc_sf.eq N _ _ _ _ _ _ _).trans h)
  · exact fn_ok hE (kp := slices_ContainsFunc_nf.kp) (N := N) Go.Proofs.Try.func95 (c := slices_ContainsFunc_nf.bd) (by kernel_rfl) ((slices_ContainsFunc_nf.eq N _ _ _).trans h)
  · cases h

noncomputable def E92 (N : Nat) : Env := (E91 N).add 95 (slices_ContainsFunc_sf.en N)

theorem E92_ok (N : Nat) : EnvOk (E92 N) ents := Env.add_ok (E91_ok N) (slices_ContainsFunc_sf.en_ok N (E91_ok N))

noncomputable def impl_Hopf_has_s.kp : Keeps := ⟨[], []⟩

noncomputable def impl_Hopf_has_s.bd : Code := bodyOf Go.Proofs.Try.f75

noncomputable def impl_Hopf_has_s.fin {ρ : Type} (N : Nat) (K : AV → Heap → Option ρ) (g2 : Nat → Int) (g3 : Nat → Int) (g4 : Nat) (g5 : Nat → Int) : XE → St → Option ρ := finK (E92 N) Go.Proofs.Try.f75 [⟨false, .ints .i64 2 g2⟩, ⟨false, .ints .u8 1104 g3⟩, ⟨false, .ints .u8 g4 g5⟩] K

theorem impl_Hopf_has_s.eq {ρ : Type} (N : Nat) (K : AV → Heap → Option ρ) (list0 : Nat) (list1 : Nat) (g2 : Nat → Int) (g3 : Nat → Int) (g4 : Nat) (g5 : Nat → Int) :
    xbody (E92 N) ents impl_Hopf_has_s.kp N Go.Proofs.Try.f75 impl_Hopf_has_s.bd [.sptr [(0, 2), (1, 1104)], .slice 2 0 list0 (some list1) 8] [⟨false, .ints .i64 2 g2⟩, ⟨false, .ints .u8 1104 g3⟩, ⟨false, .ints .u8 g4 g5⟩] K = (impl_Hopf_has_s N (fun d0 => K (.bool (d0)) [⟨false, .ints .i64 2 g2⟩, ⟨false, .ints .u8 1104 g3⟩, ⟨false, .ints .u8 g4 g5⟩]) list0 list1 g2 g3 g4 g5) := by kernel_rfl

noncomputable def impl_Hopf_has_n.kp : Keeps := ⟨[], []⟩

noncomputable def impl_Hopf_has_n.bd : Code := bodyOf Go.Proofs.Try.f75

noncomputable def impl_Hopf_has_n.fin {ρ : Type} (N : Nat) (K : AV → Heap → Option ρ) (g0 : Nat → Int) (g1 : Nat → Int) : XE → St → Option ρ := finK (E92 N) Go.Proofs.Try.f75 [⟨false, .ints .i64 2 g0⟩, ⟨false, .ints .u8 1104 g1⟩] K

theorem impl_Hopf_has_n.eq {ρ : Type} (N : Nat) (K : AV → Heap → Option ρ) (g0 : Nat → Int) (g1 : Nat → Int) :
    xbody (E92 N) ents impl_Hopf_has_n.kp N Go.Proofs.Try.f75 impl_Hopf_has_n.bd [.sptr [(0, 2), (1, 1104)], .nils] [⟨false, .ints .i64 2 g0⟩, ⟨false, .ints .u8 1104 g1⟩] K = (impl_Hopf_has_n N (fun d0 => K (.bool (d0)) [⟨false, .ints .i64 2 g0⟩, ⟨false, .ints .u8 1104 g1⟩]) g0 g1) := by kernel_rfl

noncomputable def impl_Hopf_has_s.en (N : Nat) (ρ : Type) : List AV → Heap → (AV → Heap → Option ρ) → Option ρ
  | [.sptr [(0, 2), (1, 1104)], .slice 2 0 list0 (some list1) 8], [⟨false, .ints .i64 2 g2⟩, ⟨false, .ints .u8 1104 g3⟩, ⟨false, .ints .u8 g4 g5⟩], K => (impl_Hopf_has_s N (fun d0 => K (.bool (d0)) [⟨false, .ints .i64 2 g2⟩, ⟨false, .ints .u8 1104 g3⟩, ⟨false, .ints .u8 g4 g5⟩]) list0 list1 g2 g3 g4 g5)
  | [.sptr [(0, 2), (1, 1104)], .nils], [⟨false, .ints .i64 2 g0⟩, ⟨false, .ints .u8 1104 g1⟩], K => (impl_Hopf_has_n N (fun d0 => K (.bool (d0)) [⟨false, .ints .i64 2 g0⟩, ⟨false, .ints .u8 1104 g1⟩]) g0 g1)
  | _, _, _ => none

theorem impl_Hopf_has_s.en_ok (N : Nat) (hE : EnvOk (E92 N) ents) (ρ : Type) (args : List AV) (sh : Heap) (K : AV → Heap → Option ρ) (r : ρ) (h : impl_Hopf_has_s.en N ρ args sh K = some r) : ∃ v sh', K v sh' = some r ∧ FnOk (E92 N).P 75 args sh v sh' := by
  unfold impl_Hopf_has_s.en at h
  split at h
  · exact fn_ok hE (kp := impl_Hopf_has_s.kp) (N := N) Go.Proofs.Try.func75 (c := impl_Hopf_has_s.bd) (by kernel_rfl) ((impl_Hopf_has_s.eq N _ _ _ _ _ _ _).trans h)
  · exact fn_ok hE (kp := impl_Hopf_has_n.kp) (N := N) Go.Proofs.Try.func75 (c := impl_Hopf_has_n.bd) (by kernel_rfl) ((impl_Hopf_has_n.eq N _ _ _).trans h)
  · cases h

noncomputable def E93 (N : Nat) : Env := (E92 N).add 75 (impl_Hopf_has_s.en N)

theorem E93_ok (N : Nat) : EnvOk (E93 N) ents := Env.add_ok (E92_ok N) (impl_Hopf_has_s.en_ok N (E92_ok N))

noncomputable def impl_unless.kp : Keeps := ⟨[], []⟩

noncomputable def impl_unless.bd : Code := bodyOf Go.Proofs.Try.f74

noncomputable def impl_unless.fin {ρ : Type} (N : Nat) (K : AV → Heap → Option ρ) : XE → St → Option ρ := finK (E93 N) Go.Proofs.Try.f74 [] K

theorem impl_unless.eq {ρ : Type} (N : Nat) (K : AV → Heap → Option ρ) (so0 : Bool) (code1 : Int) :
    xbody (E93 N) ents impl_unless.kp N Go.Proofs.Try.f74 impl_unless.bd [.bool (so0), .int .i64 (code1)] [] K = (impl_unless N (fun d0 => K (.int .i64 (d0)) []) so0 code1) := by kernel_rfl

noncomputable def impl_unless.en (N : Nat) (ρ : Type) : List AV → Heap → (AV → Heap → Option ρ) → Option ρ
  | [.bool (so0), .int .i64 (code1)], [], K => (impl_unless N (fun d0 => K (.int .i64 (d0)) []) so0 code1)
  | _, _, _ => none

theorem impl_unless.en_ok (N : Nat) (hE : EnvOk (E93 N) ents) (ρ : Type) (args : List AV) (sh : Heap) (K : AV → Heap → Option ρ) (r : ρ) (h : impl_unless.en N ρ args sh K = some r) : ∃ v sh', K v sh' = some r ∧ FnOk (E93 N).P 74 args sh v sh' := by
  unfold impl_unless.en at h
  split at h
  · exact fn_ok hE (kp := impl_unless.kp) (N := N) Go.Proofs.Try.func74 (c := impl_unless.bd) (by kernel_rfl) ((impl_unless.eq N _ _ _).trans h)
  · cases h

noncomputable def E94 (N : Nat) : Env := (E93 N).add 74 (impl_unless.en N)

theorem E94_ok (N : Nat) : EnvOk (E94 N) ents := Env.add_ok (E93_ok N) (impl_unless.en_ok N (E93_ok N))

noncomputable def impl_Hopf_code_s8.kp : Keeps := ⟨[], []⟩

noncomputable def impl_Hopf_code_s8.bd : Code := bodyOf Go.Proofs.Try.f38

noncomputable def impl_Hopf_code_s8.fin {ρ : Type} (N : Nat) (K : AV → Heap → Option ρ) (g2 : Nat → Int) (g3 : Nat → Int) (g4 : Nat → Int) : XE → St → Option ρ := finK (E94 N) Go.Proofs.Try.f38 [⟨false, .ints .i64 2 g2⟩, ⟨false, .ints .u8 1104 g3⟩, ⟨false, .ints .u8 8 g4⟩] K

theorem impl_Hopf_code_s8.eq {ρ : Type} (N : Nat) (K : AV → Heap → Option ρ) (list0 : Nat) (list1 : Nat) (g2 : Nat → Int) (g3 : Nat → Int) (g4 : Nat → Int) :
    xbody (E94 N) ents impl_Hopf_code_s8.kp N Go.Proofs.Try.f38 impl_Hopf_code_s8.bd [.sptr [(0, 2), (1, 1104)], .slice 2 0 list0 (some list1) 8] [⟨false, .ints .i64 2 g2⟩, ⟨false, .ints .u8 1104 g3⟩, ⟨false, .ints .u8 8 g4⟩] K = (impl_Hopf_code_s8 N (fun d0 => K (.int .i64 (d0)) [⟨false, .ints .i64 2 g2⟩, ⟨false, .ints .u8 1104 g3⟩, ⟨false, .ints .u8 8 g4⟩]) list0 list1 g2 g3 g4) := by kernel_rfl

noncomputable def impl_Hopf_code_n.kp : Keeps := ⟨[], []⟩

noncomputable def impl_Hopf_code_n.bd : Code := bodyOf Go.Proofs.Try.f38

noncomputable def impl_Hopf_code_n.fin {ρ : Type} (N : Nat) (K : AV → Heap → Option ρ) (g0 : Nat → Int) (g1 : Nat → Int) : XE → St → Option ρ := finK (E94 N) Go.Proofs.Try.f38 [⟨false, .ints .i64 2 g0⟩, ⟨false, .ints .u8 1104 g1⟩] K

theorem impl_Hopf_code_n.eq {ρ : Type} (N : Nat) (K : AV → Heap → Option ρ) (g0 : Nat → Int) (g1 : Nat → Int) :
    xbody (E94 N) ents impl_Hopf_code_n.kp N Go.Proofs.Try.f38 impl_Hopf_code_n.bd [.sptr [(0, 2), (1, 1104)], .nils] [⟨false, .ints .i64 2 g0⟩, ⟨false, .ints .u8 1104 g1⟩] K = (impl_Hopf_code_n N (fun d0 => K (.int .i64 (d0)) [⟨false, .ints .i64 2 g0⟩, ⟨false, .ints .u8 1104 g1⟩]) g0 g1) := by kernel_rfl

noncomputable def impl_Hopf_code_s8.en (N : Nat) (ρ : Type) : List AV → Heap → (AV → Heap → Option ρ) → Option ρ
  | [.sptr [(0, 2), (1, 1104)], .slice 2 0 list0 (some list1) 8], [⟨false, .ints .i64 2 g2⟩, ⟨false, .ints .u8 1104 g3⟩, ⟨false, .ints .u8 8 g4⟩], K => (impl_Hopf_code_s8 N (fun d0 => K (.int .i64 (d0)) [⟨false, .ints .i64 2 g2⟩, ⟨false, .ints .u8 1104 g3⟩, ⟨false, .ints .u8 8 g4⟩]) list0 list1 g2 g3 g4)
  | [.sptr [(0, 2), (1, 1104)], .nils], [⟨false, .ints .i64 2 g0⟩, ⟨false, .ints .u8 1104 g1⟩], K => (impl_Hopf_code_n N (fun d0 => K (.int .i64 (d0)) [⟨false, .ints .i64 2 g0⟩, ⟨false, .ints .u8 1104 g1⟩]) g0 g1)
  | _, _, _ => none

theorem impl_Hopf_code_s8.en_ok (N : Nat) (hE : EnvOk (E94 N) ents) (ρ : Type) (args : List AV) (sh : Heap) (K : AV → Heap → Option ρ) (r : ρ) (h : impl_Hopf_code_s8.en N ρ args sh K = some r) : ∃ v sh', K v sh' = some r ∧ FnOk (E94 N).P 38 args sh v sh' := by
  unfold impl_Hopf_code_s8.en at h
  split at h
  · exact fn_ok hE (kp := impl_Hopf_code_s8.kp) (N := N) Go.Proofs.Try.func38 (c := impl_Hopf_code_s8.bd) (by kernel_rfl) ((impl_Hopf_code_s8.eq N _ _ _ _ _ _).trans h)
  · exact fn_ok hE (kp := impl_Hopf_code_n.kp) (N := N) Go.Proofs.Try.func38 (c := impl_Hopf_code_n.bd) (by kernel_rfl) ((impl_Hopf_code_n.eq N _ _ _).trans h)
  · cases h

noncomputable def E95 (N : Nat) : Env := (E94 N).add 38 (impl_Hopf_code_s8.en N)

theorem E95_ok (N : Nat) : EnvOk (E95 N) ents := Env.add_ok (E94_ok N) (impl_Hopf_code_s8.en_ok N (E94_ok N))

noncomputable def impl_CounitOf.kp : Keeps := ⟨[], []⟩

noncomputable def impl_CounitOf.bd : Code := bodyOf Go.Proofs.Try.f17

noncomputable def impl_CounitOf.fin {ρ : Type} (N : Nat) (K : AV → Heap → Option ρ) : XE → St → Option ρ := finK (E95 N) Go.Proofs.Try.f17 [] K

theorem impl_CounitOf.eq {ρ : Type} (N : Nat) (K : AV → Heap → Option ρ) (h0 : Nat → Int) (h1 : Nat → Int) (v2 : Nat → Int) :
    xbody (E95 N) ents impl_CounitOf.kp N Go.Proofs.Try.f17 impl_CounitOf.bd [.agg [⟨.i64, 2, h0⟩, ⟨.u8, 1104, h1⟩], .agg [⟨.u8, 8, v2⟩]] [] K = (impl_CounitOf N (fun d0 d1 => K (.tup [.int .i64 (d0), .int .i64 (d1)]) []) h0 h1 v2) := by kernel_rfl

noncomputable def impl_CounitOf.en (N : Nat) (ρ : Type) : List AV → Heap → (AV → Heap → Option ρ) → Option ρ
  | [.agg [⟨.i64, 2, h0⟩, ⟨.u8, 1104, h1⟩], .agg [⟨.u8, 8, v2⟩]], [], K => (impl_CounitOf N (fun d0 d1 => K (.tup [.int .i64 (d0), .int .i64 (d1)]) []) h0 h1 v2)
  | _, _, _ => none

theorem impl_CounitOf.en_ok (N : Nat) (hE : EnvOk (E95 N) ents) (ρ : Type) (args : List AV) (sh : Heap) (K : AV → Heap → Option ρ) (r : ρ) (h : impl_CounitOf.en N ρ args sh K = some r) : ∃ v sh', K v sh' = some r ∧ FnOk (E95 N).P 17 args sh v sh' := by
  unfold impl_CounitOf.en at h
  split at h
  · exact fn_ok hE (kp := impl_CounitOf.kp) (N := N) Go.Proofs.Try.func17 (c := impl_CounitOf.bd) (by kernel_rfl) ((impl_CounitOf.eq N _ _ _ _).trans h)
  · cases h

noncomputable def E96 (N : Nat) : Env := (E95 N).add 17 (impl_CounitOf.en N)

theorem E96_ok (N : Nat) : EnvOk (E96 N) ents := Env.add_ok (E95_ok N) (impl_CounitOf.en_ok N (E95_ok N))

noncomputable def laws_FnExactCounitOf.kp : Keeps := ⟨[], []⟩

noncomputable def laws_FnExactCounitOf.bd : Code := bodyOf Go.Proofs.Try.f5

noncomputable def laws_FnExactCounitOf.fin {ρ : Type} (N : Nat) (K : AV → Heap → Option ρ) : XE → St → Option ρ := finK (E96 N) Go.Proofs.Try.f5 [] K

theorem laws_FnExactCounitOf.eq {ρ : Type} (N : Nat) (K : AV → Heap → Option ρ) (aH0 : Nat → Int) (aH1 : Nat → Int) (aV2 : Nat → Int) :
    xbody (E96 N) ents laws_FnExactCounitOf.kp N Go.Proofs.Try.f5 laws_FnExactCounitOf.bd [.agg [⟨.i64, 2, aH0⟩, ⟨.u8, 1104, aH1⟩], .agg [⟨.u8, 8, aV2⟩]] [] K = (laws_FnExactCounitOf N (fun d0 => K (.bool (d0)) []) aH0 aH1 aV2) := by kernel_rfl

noncomputable def laws_FnExactCounitOf.en (N : Nat) (ρ : Type) : List AV → Heap → (AV → Heap → Option ρ) → Option ρ
  | [.agg [⟨.i64, 2, aH0⟩, ⟨.u8, 1104, aH1⟩], .agg [⟨.u8, 8, aV2⟩]], [], K => (laws_FnExactCounitOf N (fun d0 => K (.bool (d0)) []) aH0 aH1 aV2)
  | _, _, _ => none

theorem laws_FnExactCounitOf.en_ok (N : Nat) (hE : EnvOk (E96 N) ents) (ρ : Type) (args : List AV) (sh : Heap) (K : AV → Heap → Option ρ) (r : ρ) (h : laws_FnExactCounitOf.en N ρ args sh K = some r) : ∃ v sh', K v sh' = some r ∧ FnOk (E96 N).P 5 args sh v sh' := by
  unfold laws_FnExactCounitOf.en at h
  split at h
  · exact fn_ok hE (kp := laws_FnExactCounitOf.kp) (N := N) Go.Proofs.Try.func5 (c := laws_FnExactCounitOf.bd) (by kernel_rfl) ((laws_FnExactCounitOf.eq N _ _ _ _).trans h)
  · cases h

noncomputable def E97 (N : Nat) : Env := (E96 N).add 5 (laws_FnExactCounitOf.en N)

theorem E97_ok (N : Nat) : EnvOk (E97 N) ents := Env.add_ok (E96_ok N) (laws_FnExactCounitOf.en_ok N (E96_ok N))

noncomputable def spec_IsLeftIntegral.kp : Keeps := ⟨[(0, [2, 3, 7], 4)], [(0, [], 4)]⟩

noncomputable def spec_IsLeftIntegral.bd : Code := bodyOf Go.Proofs.Try.f18

noncomputable def spec_IsLeftIntegral.fin {ρ : Type} (N : Nat) (K : AV → Heap → Option ρ) : XE → St → Option ρ := finK (E97 N) Go.Proofs.Try.f18 [] K

noncomputable def spec_IsLeftIntegral.k0 {ρ : Type} (N : Nat) (K : AV → Heap → Option ρ) : XE → St → Option ρ := (blockK spec_IsLeftIntegral.kp 0 0 (seqK (xcode (E97 N) ents spec_IsLeftIntegral.kp 0 N (cB (cB (cB spec_IsLeftIntegral.bd))) 0) (spec_IsLeftIntegral.fin N K)))

theorem spec_IsLeftIntegral.k0_mix {ρ : Type} (N : Nat) (K : AV → Heap → Option ρ) : mixK (spec_IsLeftIntegral.fin N K .ret) (spec_IsLeftIntegral.k0 N K) = (spec_IsLeftIntegral.k0 N K) := by
  funext e s; cases e <;> rfl

noncomputable def spec_IsLeftIntegral.st0 (h0 : Nat → Int) (h1 : Nat → Int) (t2 : Nat → Int) (i4 : Int) : St := ⟨sl 38 [(2, .sptr [(0, 2), (1, 1104)]), (3, .sptr [(2, 8)]), (7, .int .i64 (i4))], [⟨true, .ints .i64 2 h0⟩, ⟨true, .ints .u8 1104 h1⟩, ⟨true, .ints .u8 8 t2⟩, ⟨true, .ints .u8 8 t2⟩]⟩

noncomputable def spec_IsLeftIntegral.sx0_0 (h0 : Nat → Int) (h1 : Nat → Int) (t2 : Nat → Int) : St := ⟨sl 38 [], [⟨true, .ints .i64 2 h0⟩, ⟨true, .ints .u8 1104 h1⟩, ⟨true, .ints .u8 8 t2⟩, ⟨true, .ints .u8 8 t2⟩]⟩

theorem spec_IsLeftIntegral.b0_gen {ρ : Type} (N : Nat) (K : AV → Heap → Option ρ) (L0 : St → Option ρ) (kv : XE → St → Option ρ) (h0 : Nat → Int) (h1 : Nat → Int) (t2 : Nat → Int) (i4 : Int) :
    xcode (E97 N) ents spec_IsLeftIntegral.kp 0 N (cL (cK (cB (cA (cB (cB spec_IsLeftIntegral.bd)))))) 0 (spec_IsLeftIntegral.st0 h0 h1 t2 i4) (roundK spec_IsLeftIntegral.kp 0 0 L0 (mixK (spec_IsLeftIntegral.fin N K .ret) kv)) = (spec_IsLeftIntegral.b0 N (fun d0 d1 => K (.tup [.bool (d0), .int .i64 (d1)]) []) (fun i4 => L0 (spec_IsLeftIntegral.st0 h0 h1 t2 i4)) (kv (.exit 0) (spec_IsLeftIntegral.sx0_0 h0 h1 t2)) h0 h1 t2 i4) := by kernel_rfl

theorem spec_IsLeftIntegral.b0_eq {ρ : Type} (N : Nat) (K : AV → Heap → Option ρ) (L0 : St → Option ρ) (h0 : Nat → Int) (h1 : Nat → Int) (t2 : Nat → Int) (i4 : Int) :
    xcode (E97 N) ents spec_IsLeftIntegral.kp 0 N (cL (cK (cB (cA (cB (cB spec_IsLeftIntegral.bd)))))) 0 (spec_IsLeftIntegral.st0 h0 h1 t2 i4) (roundK spec_IsLeftIntegral.kp 0 0 L0 (spec_IsLeftIntegral.k0 N K)) = (spec_IsLeftIntegral.b0 N (fun d0 d1 => K (.tup [.bool (d0), .int .i64 (d1)]) []) (fun i4 => L0 (spec_IsLeftIntegral.st0 h0 h1 t2 i4)) ((spec_IsLeftIntegral.k0 N K) (.exit 0) (spec_IsLeftIntegral.sx0_0 h0 h1 t2)) h0 h1 t2 i4) := by
  have h := spec_IsLeftIntegral.b0_gen N K L0 (spec_IsLeftIntegral.k0 N K) h0 h1 t2 i4
  rw [spec_IsLeftIntegral.k0_mix] at h
  exact h

theorem spec_IsLeftIntegral.a0_0_eq {ρ : Type} (N : Nat) (K : AV → Heap → Option ρ) (h0 : Nat → Int) (h1 : Nat → Int) (t2 : Nat → Int) :
    (spec_IsLeftIntegral.k0 N K) (.exit 0) (spec_IsLeftIntegral.sx0_0 h0 h1 t2) = (spec_IsLeftIntegral.a0_0 N (fun d0 d1 => K (.tup [.bool (d0), .int .i64 (d1)]) [])) := by kernel_rfl

theorem spec_IsLeftIntegral.l0_eq {ρ : Type} (N : Nat) (K : AV → Heap → Option ρ) (h0 : Nat → Int) (h1 : Nat → Int) (t2 : Nat → Int) :
    ∀ (m : Nat) (i4 : Int), xloop (xcode (E97 N) ents spec_IsLeftIntegral.kp 0 N (cL (cK (cB (cA (cB (cB spec_IsLeftIntegral.bd)))))) 0) spec_IsLeftIntegral.kp 0 0 m (spec_IsLeftIntegral.st0 h0 h1 t2 i4) (spec_IsLeftIntegral.k0 N K) = (spec_IsLeftIntegral.l0 N (fun d0 d1 => K (.tup [.bool (d0), .int .i64 (d1)]) []) h0 h1 t2 ((spec_IsLeftIntegral.k0 N K) (.exit 0) (spec_IsLeftIntegral.sx0_0 h0 h1 t2)) m i4) := by
  intro m
  induction m with
  | zero => intros; rfl
  | succ m ih =>
    intro i4
    refine (spec_IsLeftIntegral.b0_eq N K (fun s => xloop (xcode (E97 N) ents spec_IsLeftIntegral.kp 0 N (cL (cK (cB (cA (cB (cB spec_IsLeftIntegral.bd)))))) 0) spec_IsLeftIntegral.kp 0 0 m s (spec_IsLeftIntegral.k0 N K)) h0 h1 t2 i4).trans ?_
    simp only [ih]
    kernel_rfl

theorem spec_IsLeftIntegral.s_eq {ρ : Type} (N : Nat) (K : AV → Heap → Option ρ) (h0 : Nat → Int) (h1 : Nat → Int) (t2 : Nat → Int) :
    xbody (E97 N) ents spec_IsLeftIntegral.kp N Go.Proofs.Try.f18 spec_IsLeftIntegral.bd [.agg [⟨.i64, 2, h0⟩, ⟨.u8, 1104, h1⟩], .agg [⟨.u8, 8, t2⟩]] [] K = (spec_IsLeftIntegral.s N (fun d0 d1 => K (.tup [.bool (d0), .int .i64 (d1)]) []) (fun i4 => xloop (xcode (E97 N) ents spec_IsLeftIntegral.kp 0 N (cL (cK (cB (cA (cB (cB spec_IsLeftIntegral.bd)))))) 0) spec_IsLeftIntegral.kp 0 0 N (spec_IsLeftIntegral.st0 h0 h1 t2 i4) (spec_IsLeftIntegral.k0 N K)) h0 h1 t2) := by kernel_rfl

theorem spec_IsLeftIntegral.eq {ρ : Type} (N : Nat) (K : AV → Heap → Option ρ) (h0 : Nat → Int) (h1 : Nat → Int) (t2 : Nat → Int) :
    xbody (E97 N) ents spec_IsLeftIntegral.kp N Go.Proofs.Try.f18 spec_IsLeftIntegral.bd [.agg [⟨.i64, 2, h0⟩, ⟨.u8, 1104, h1⟩], .agg [⟨.u8, 8, t2⟩]] [] K = (spec_IsLeftIntegral N (fun d0 d1 => K (.tup [.bool (d0), .int .i64 (d1)]) []) h0 h1 t2) := by
  refine (spec_IsLeftIntegral.s_eq N K h0 h1 t2).trans ?_
  simp only [spec_IsLeftIntegral.l0_eq, spec_IsLeftIntegral.a0_0_eq]
  kernel_rfl

noncomputable def spec_IsLeftIntegral.en (N : Nat) (ρ : Type) : List AV → Heap → (AV → Heap → Option ρ) → Option ρ
  | [.agg [⟨.i64, 2, h0⟩, ⟨.u8, 1104, h1⟩], .agg [⟨.u8, 8, t2⟩]], [], K => (spec_IsLeftIntegral N (fun d0 d1 => K (.tup [.bool (d0), .int .i64 (d1)]) []) h0 h1 t2)
  | _, _, _ => none

theorem spec_IsLeftIntegral.en_ok (N : Nat) (hE : EnvOk (E97 N) ents) (ρ : Type) (args : List AV) (sh : Heap) (K : AV → Heap → Option ρ) (r : ρ) (h : spec_IsLeftIntegral.en N ρ args sh K = some r) : ∃ v sh', K v sh' = some r ∧ FnOk (E97 N).P 18 args sh v sh' := by
  unfold spec_IsLeftIntegral.en at h
  split at h
  · exact fn_ok hE (kp := spec_IsLeftIntegral.kp) (N := N) Go.Proofs.Try.func18 (c := spec_IsLeftIntegral.bd) (by kernel_rfl) ((spec_IsLeftIntegral.eq N _ _ _ _).trans h)
  · cases h

noncomputable def E98 (N : Nat) : Env := (E97 N).add 18 (spec_IsLeftIntegral.en N)

theorem E98_ok (N : Nat) : EnvOk (E98 N) ents := Env.add_ok (E97_ok N) (spec_IsLeftIntegral.en_ok N (E97_ok N))

noncomputable def impl_IsLeftIntegral.kp : Keeps := ⟨[(0, [2, 3, 7, 17, 18], 5)], [(0, [], 5)]⟩

noncomputable def impl_IsLeftIntegral.bd : Code := bodyOf Go.Proofs.Try.f19

noncomputable def impl_IsLeftIntegral.fin {ρ : Type} (N : Nat) (K : AV → Heap → Option ρ) : XE → St → Option ρ := finK (E98 N) Go.Proofs.Try.f19 [] K

noncomputable def impl_IsLeftIntegral.k0 {ρ : Type} (N : Nat) (K : AV → Heap → Option ρ) : XE → St → Option ρ := (blockK impl_IsLeftIntegral.kp 0 0 (seqK (xcode (E98 N) ents impl_IsLeftIntegral.kp 0 N (cB (cB (cB (cB impl_IsLeftIntegral.bd)))) 0) (impl_IsLeftIntegral.fin N K)))

theorem impl_IsLeftIntegral.k0_mix {ρ : Type} (N : Nat) (K : AV → Heap → Option ρ) : mixK (impl_IsLeftIntegral.fin N K .ret) (impl_IsLeftIntegral.k0 N K) = (impl_IsLeftIntegral.k0 N K) := by
  funext e s; cases e <;> rfl

noncomputable def impl_IsLeftIntegral.st0 (h0 : Nat → Int) (h1 : Nat → Int) (t2 : Nat → Int) (r4 : Nat → Int) (x5 : Int) : St := ⟨sl 35 [(2, .sptr [(0, 2), (1, 1104)]), (3, .sptr [(2, 8)]), (7, .sptr [(4, 2)]), (17, .int .i64 ((r4 1))), (18, .int .i64 (x5))], [⟨true, .ints .i64 2 h0⟩, ⟨true, .ints .u8 1104 h1⟩, ⟨true, .ints .u8 8 t2⟩, ⟨true, .ints .u8 8 t2⟩, ⟨true, .ints .i64 2 r4⟩]⟩

noncomputable def impl_IsLeftIntegral.sx0_0 (h0 : Nat → Int) (h1 : Nat → Int) (t2 : Nat → Int) (r4 : Nat → Int) : St := ⟨sl 35 [], [⟨true, .ints .i64 2 h0⟩, ⟨true, .ints .u8 1104 h1⟩, ⟨true, .ints .u8 8 t2⟩, ⟨true, .ints .u8 8 t2⟩, ⟨true, .ints .i64 2 r4⟩]⟩

theorem impl_IsLeftIntegral.b0_gen {ρ : Type} (N : Nat) (K : AV → Heap → Option ρ) (L0 : St → Option ρ) (kv : XE → St → Option ρ) (h0 : Nat → Int) (h1 : Nat → Int) (t2 : Nat → Int) (r4 : Nat → Int) (x5 : Int) :
    xcode (E98 N) ents impl_IsLeftIntegral.kp 0 N (cL (cK (cB (cA (cB (cB (cB impl_IsLeftIntegral.bd))))))) 0 (impl_IsLeftIntegral.st0 h0 h1 t2 r4 x5) (roundK impl_IsLeftIntegral.kp 0 0 L0 (mixK (impl_IsLeftIntegral.fin N K .ret) kv)) = (impl_IsLeftIntegral.b0 N (fun d0 d1 => K (.tup [.bool (d0), .int .i64 (d1)]) []) (fun x5 => L0 (impl_IsLeftIntegral.st0 h0 h1 t2 r4 x5)) (kv (.exit 0) (impl_IsLeftIntegral.sx0_0 h0 h1 t2 r4)) h0 h1 t2 r4 x5) := by kernel_rfl

theorem impl_IsLeftIntegral.b0_eq {ρ : Type} (N : Nat) (K : AV → Heap → Option ρ) (L0 : St → Option ρ) (h0 : Nat → Int) (h1 : Nat → Int) (t2 : Nat → Int) (r4 : Nat → Int) (x5 : Int) :
    xcode (E98 N) ents impl_IsLeftIntegral.kp 0 N (cL (cK (cB (cA (cB (cB (cB impl_IsLeftIntegral.bd))))))) 0 (impl_IsLeftIntegral.st0 h0 h1 t2 r4 x5) (roundK impl_IsLeftIntegral.kp 0 0 L0 (impl_IsLeftIntegral.k0 N K)) = (impl_IsLeftIntegral.b0 N (fun d0 d1 => K (.tup [.bool (d0), .int .i64 (d1)]) []) (fun x5 => L0 (impl_IsLeftIntegral.st0 h0 h1 t2 r4 x5)) ((impl_IsLeftIntegral.k0 N K) (.exit 0) (impl_IsLeftIntegral.sx0_0 h0 h1 t2 r4)) h0 h1 t2 r4 x5) := by
  have h := impl_IsLeftIntegral.b0_gen N K L0 (impl_IsLeftIntegral.k0 N K) h0 h1 t2 r4 x5
  rw [impl_IsLeftIntegral.k0_mix] at h
  exact h

theorem impl_IsLeftIntegral.a0_0_eq {ρ : Type} (N : Nat) (K : AV → Heap → Option ρ) (h0 : Nat → Int) (h1 : Nat → Int) (t2 : Nat → Int) (r4 : Nat → Int) :
    (impl_IsLeftIntegral.k0 N K) (.exit 0) (impl_IsLeftIntegral.sx0_0 h0 h1 t2 r4) = (impl_IsLeftIntegral.a0_0 N (fun d0 d1 => K (.tup [.bool (d0), .int .i64 (d1)]) [])) := by kernel_rfl

theorem impl_IsLeftIntegral.l0_eq {ρ : Type} (N : Nat) (K : AV → Heap → Option ρ) (h0 : Nat → Int) (h1 : Nat → Int) (t2 : Nat → Int) (r4 : Nat → Int) :
    ∀ (m : Nat) (x5 : Int), xloop (xcode (E98 N) ents impl_IsLeftIntegral.kp 0 N (cL (cK (cB (cA (cB (cB (cB impl_IsLeftIntegral.bd))))))) 0) impl_IsLeftIntegral.kp 0 0 m (impl_IsLeftIntegral.st0 h0 h1 t2 r4 x5) (impl_IsLeftIntegral.k0 N K) = (impl_IsLeftIntegral.l0 N (fun d0 d1 => K (.tup [.bool (d0), .int .i64 (d1)]) []) h0 h1 t2 r4 ((impl_IsLeftIntegral.k0 N K) (.exit 0) (impl_IsLeftIntegral.sx0_0 h0 h1 t2 r4)) m x5) := by
  intro m
  induction m with
  | zero => intros; rfl
  | succ m ih =>
    intro x5
    refine (impl_IsLeftIntegral.b0_eq N K (fun s => xloop (xcode (E98 N) ents impl_IsLeftIntegral.kp 0 N (cL (cK (cB (cA (cB (cB (cB impl_IsLeftIntegral.bd))))))) 0) impl_IsLeftIntegral.kp 0 0 m s (impl_IsLeftIntegral.k0 N K)) h0 h1 t2 r4 x5).trans ?_
    simp only [ih]
    kernel_rfl

theorem impl_IsLeftIntegral.s_eq {ρ : Type} (N : Nat) (K : AV → Heap → Option ρ) (h0 : Nat → Int) (h1 : Nat → Int) (t2 : Nat → Int) :
    xbody (E98 N) ents impl_IsLeftIntegral.kp N Go.Proofs.Try.f19 impl_IsLeftIntegral.bd [.agg [⟨.i64, 2, h0⟩, ⟨.u8, 1104, h1⟩], .agg [⟨.u8, 8, t2⟩]] [] K = (impl_IsLeftIntegral.s N (fun d0 d1 => K (.tup [.bool (d0), .int .i64 (d1)]) []) (fun r4 x5 => xloop (xcode (E98 N) ents impl_IsLeftIntegral.kp 0 N (cL (cK (cB (cA (cB (cB (cB impl_IsLeftIntegral.bd))))))) 0) impl_IsLeftIntegral.kp 0 0 N (impl_IsLeftIntegral.st0 h0 h1 t2 r4 x5) (impl_IsLeftIntegral.k0 N K)) h0 h1 t2) := by kernel_rfl

theorem impl_IsLeftIntegral.eq {ρ : Type} (N : Nat) (K : AV → Heap → Option ρ) (h0 : Nat → Int) (h1 : Nat → Int) (t2 : Nat → Int) :
    xbody (E98 N) ents impl_IsLeftIntegral.kp N Go.Proofs.Try.f19 impl_IsLeftIntegral.bd [.agg [⟨.i64, 2, h0⟩, ⟨.u8, 1104, h1⟩], .agg [⟨.u8, 8, t2⟩]] [] K = (impl_IsLeftIntegral N (fun d0 d1 => K (.tup [.bool (d0), .int .i64 (d1)]) []) h0 h1 t2) := by
  refine (impl_IsLeftIntegral.s_eq N K h0 h1 t2).trans ?_
  simp only [impl_IsLeftIntegral.l0_eq, impl_IsLeftIntegral.a0_0_eq]
  kernel_rfl

noncomputable def impl_IsLeftIntegral.en (N : Nat) (ρ : Type) : List AV → Heap → (AV → Heap → Option ρ) → Option ρ
  | [.agg [⟨.i64, 2, h0⟩, ⟨.u8, 1104, h1⟩], .agg [⟨.u8, 8, t2⟩]], [], K => (impl_IsLeftIntegral N (fun d0 d1 => K (.tup [.bool (d0), .int .i64 (d1)]) []) h0 h1 t2)
  | _, _, _ => none

theorem impl_IsLeftIntegral.en_ok (N : Nat) (hE : EnvOk (E98 N) ents) (ρ : Type) (args : List AV) (sh : Heap) (K : AV → Heap → Option ρ) (r : ρ) (h : impl_IsLeftIntegral.en N ρ args sh K = some r) : ∃ v sh', K v sh' = some r ∧ FnOk (E98 N).P 19 args sh v sh' := by
  unfold impl_IsLeftIntegral.en at h
  split at h
  · exact fn_ok hE (kp := impl_IsLeftIntegral.kp) (N := N) Go.Proofs.Try.func19 (c := impl_IsLeftIntegral.bd) (by kernel_rfl) ((impl_IsLeftIntegral.eq N _ _ _ _).trans h)
  · cases h

noncomputable def E99 (N : Nat) : Env := (E98 N).add 19 (impl_IsLeftIntegral.en N)

theorem E99_ok (N : Nat) : EnvOk (E99 N) ents := Env.add_ok (E98_ok N) (impl_IsLeftIntegral.en_ok N (E98_ok N))

noncomputable def laws_FnExactIsLeftIntegral.kp : Keeps := ⟨[], []⟩

noncomputable def laws_FnExactIsLeftIntegral.bd : Code := bodyOf Go.Proofs.Try.f6

noncomputable def laws_FnExactIsLeftIntegral.fin {ρ : Type} (N : Nat) (K : AV → Heap → Option ρ) : XE → St → Option ρ := finK (E99 N) Go.Proofs.Try.f6 [] K

theorem laws_FnExactIsLeftIntegral.eq {ρ : Type} (N : Nat) (K : AV → Heap → Option ρ) (aH0 : Nat → Int) (aH1 : Nat → Int) (aT2 : Nat → Int) :
    xbody (E99 N) ents laws_FnExactIsLeftIntegral.kp N Go.Proofs.Try.f6 laws_FnExactIsLeftIntegral.bd [.agg [⟨.i64, 2, aH0⟩, ⟨.u8, 1104, aH1⟩], .agg [⟨.u8, 8, aT2⟩]] [] K = (laws_FnExactIsLeftIntegral N (fun d0 => K (.bool (d0)) []) aH0 aH1 aT2) := by kernel_rfl

noncomputable def laws_FnExactIsLeftIntegral.en (N : Nat) (ρ : Type) : List AV → Heap → (AV → Heap → Option ρ) → Option ρ
  | [.agg [⟨.i64, 2, aH0⟩, ⟨.u8, 1104, aH1⟩], .agg [⟨.u8, 8, aT2⟩]], [], K => (laws_FnExactIsLeftIntegral N (fun d0 => K (.bool (d0)) []) aH0 aH1 aT2)
  | _, _, _ => none

theorem laws_FnExactIsLeftIntegral.en_ok (N : Nat) (hE : EnvOk (E99 N) ents) (ρ : Type) (args : List AV) (sh : Heap) (K : AV → Heap → Option ρ) (r : ρ) (h : laws_FnExactIsLeftIntegral.en N ρ args sh K = some r) : ∃ v sh', K v sh' = some r ∧ FnOk (E99 N).P 6 args sh v sh' := by
  unfold laws_FnExactIsLeftIntegral.en at h
  split at h
  · exact fn_ok hE (kp := laws_FnExactIsLeftIntegral.kp) (N := N) Go.Proofs.Try.func6 (c := laws_FnExactIsLeftIntegral.bd) (by kernel_rfl) ((laws_FnExactIsLeftIntegral.eq N _ _ _ _).trans h)
  · cases h

noncomputable def E100 (N : Nat) : Env := (E99 N).add 6 (laws_FnExactIsLeftIntegral.en N)

theorem E100_ok (N : Nat) : EnvOk (E100 N) ents := Env.add_ok (E99_ok N) (laws_FnExactIsLeftIntegral.en_ok N (E99_ok N))

noncomputable def spec_CoproductOf.kp : Keeps := ⟨[], []⟩

noncomputable def spec_CoproductOf.bd : Code := bodyOf Go.Proofs.Try.f20

noncomputable def spec_CoproductOf.fin {ρ : Type} (N : Nat) (K : AV → Heap → Option ρ) : XE → St → Option ρ := finK (E100 N) Go.Proofs.Try.f20 [] K

theorem spec_CoproductOf.eq {ρ : Type} (N : Nat) (K : AV → Heap → Option ρ) (h0 : Nat → Int) (h1 : Nat → Int) (v2 : Nat → Int) :
    xbody (E100 N) ents spec_CoproductOf.kp N Go.Proofs.Try.f20 spec_CoproductOf.bd [.agg [⟨.i64, 2, h0⟩, ⟨.u8, 1104, h1⟩], .agg [⟨.u8, 8, v2⟩]] [] K = (spec_CoproductOf N (fun d0 d1 => K (.tup [.agg [⟨.u8, 64, d0⟩], .int .i64 (d1)]) []) h0 h1 v2) := by kernel_rfl

noncomputable def spec_CoproductOf.en (N : Nat) (ρ : Type) : List AV → Heap → (AV → Heap → Option ρ) → Option ρ
  | [.agg [⟨.i64, 2, h0⟩, ⟨.u8, 1104, h1⟩], .agg [⟨.u8, 8, v2⟩]], [], K => (spec_CoproductOf N (fun d0 d1 => K (.tup [.agg [⟨.u8, 64, d0⟩], .int .i64 (d1)]) []) h0 h1 v2)
  | _, _, _ => none

theorem spec_CoproductOf.en_ok (N : Nat) (hE : EnvOk (E100 N) ents) (ρ : Type) (args : List AV) (sh : Heap) (K : AV → Heap → Option ρ) (r : ρ) (h : spec_CoproductOf.en N ρ args sh K = some r) : ∃ v sh', K v sh' = some r ∧ FnOk (E100 N).P 20 args sh v sh' := by
  unfold spec_CoproductOf.en at h
  split at h
  · exact fn_ok hE (kp := spec_CoproductOf.kp) (N := N) Go.Proofs.Try.func20 (c := spec_CoproductOf.bd) (by kernel_rfl) ((spec_CoproductOf.eq N _ _ _ _).trans h)
  · cases h

noncomputable def E101 (N : Nat) : Env := (E100 N).add 20 (spec_CoproductOf.en N)

theorem E101_ok (N : Nat) : EnvOk (E101 N) ents := Env.add_ok (E100_ok N) (spec_CoproductOf.en_ok N (E100_ok N))

noncomputable def impl_CoproductOf.kp : Keeps := ⟨[], []⟩

noncomputable def impl_CoproductOf.bd : Code := bodyOf Go.Proofs.Try.f21

noncomputable def impl_CoproductOf.fin {ρ : Type} (N : Nat) (K : AV → Heap → Option ρ) : XE → St → Option ρ := finK (E101 N) Go.Proofs.Try.f21 [] K

theorem impl_CoproductOf.eq {ρ : Type} (N : Nat) (K : AV → Heap → Option ρ) (h0 : Nat → Int) (h1 : Nat → Int) (v2 : Nat → Int) :
    xbody (E101 N) ents impl_CoproductOf.kp N Go.Proofs.Try.f21 impl_CoproductOf.bd [.agg [⟨.i64, 2, h0⟩, ⟨.u8, 1104, h1⟩], .agg [⟨.u8, 8, v2⟩]] [] K = (impl_CoproductOf N (fun d0 d1 => K (.tup [.agg [⟨.u8, 64, d0⟩], .int .i64 (d1)]) []) h0 h1 v2) := by kernel_rfl

noncomputable def impl_CoproductOf.en (N : Nat) (ρ : Type) : List AV → Heap → (AV → Heap → Option ρ) → Option ρ
  | [.agg [⟨.i64, 2, h0⟩, ⟨.u8, 1104, h1⟩], .agg [⟨.u8, 8, v2⟩]], [], K => (impl_CoproductOf N (fun d0 d1 => K (.tup [.agg [⟨.u8, 64, d0⟩], .int .i64 (d1)]) []) h0 h1 v2)
  | _, _, _ => none

theorem impl_CoproductOf.en_ok (N : Nat) (hE : EnvOk (E101 N) ents) (ρ : Type) (args : List AV) (sh : Heap) (K : AV → Heap → Option ρ) (r : ρ) (h : impl_CoproductOf.en N ρ args sh K = some r) : ∃ v sh', K v sh' = some r ∧ FnOk (E101 N).P 21 args sh v sh' := by
  unfold impl_CoproductOf.en at h
  split at h
  · exact fn_ok hE (kp := impl_CoproductOf.kp) (N := N) Go.Proofs.Try.func21 (c := impl_CoproductOf.bd) (by kernel_rfl) ((impl_CoproductOf.eq N _ _ _ _).trans h)
  · cases h

noncomputable def E102 (N : Nat) : Env := (E101 N).add 21 (impl_CoproductOf.en N)

theorem E102_ok (N : Nat) : EnvOk (E102 N) ents := Env.add_ok (E101_ok N) (impl_CoproductOf.en_ok N (E101_ok N))
end Go.Proofs.Ytacdnmdfoimjcaa.H
