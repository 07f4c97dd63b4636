/- The program computes these functions. -/
import Derived.Test.YthecjjnieojjoaaHL2
namespace Go.Proofs.Ythecjjnieojjoaa.H
set_option linter.unusedVariables false
set_option linter.unusedSimpArgs false
open Go Go.RowKit Go.Proofs.Ythecjjnieojjoaa.Hx
set_option linter.unusedVariables false
set_option maxRecDepth 100000
noncomputable def spec_l02Turned.kp : Keeps := ⟨[(0, [1, 2, 3, 4], 3), (2, [1, 2, 3, 4, 5], 3), (4, [1, 2, 3, 4, 5, 6], 3)], [(0, [2, 3], 3), (2, [1, 2, 3, 4], 3), (4, [1, 2, 3, 4, 5], 3)]⟩

noncomputable def spec_l02Turned.bd : Code := bodyOf Go.Proofs.Try.f70

noncomputable def spec_l02Turned.fin {ρ : Type} (N : Nat) (K : AV → Heap → Option ρ) : XE → St → Option ρ := finK (E63 N) Go.Proofs.Try.f70 [] K

noncomputable def spec_l02Turned.k0 {ρ : Type} (N : Nat) (K : AV → Heap → Option ρ) : XE → St → Option ρ := (blockK spec_l02Turned.kp 0 0 (seqK (xcode (E63 N) ents spec_l02Turned.kp 0 N (cB (cB (cB spec_l02Turned.bd))) 0) (spec_l02Turned.fin N K)))

theorem spec_l02Turned.k0_mix {ρ : Type} (N : Nat) (K : AV → Heap → Option ρ) : mixK (spec_l02Turned.fin N K .ret) (spec_l02Turned.k0 N K) = (spec_l02Turned.k0 N K) := by
  funext e s; cases e <;> rfl

noncomputable def spec_l02Turned.st0 (t0 : Nat → Int) (i1 : Int) (g2 : Nat → Int) : St := ⟨sl 34 [(1, .sptr [(0, 512)]), (2, .sptr [(1, 512)]), (3, .sptr [(2, 512)]), (4, .int .i64 (i1))], [⟨true, .ints .u8 512 t0⟩, ⟨true, .ints .u8 512 (fun _ => 0)⟩, ⟨true, .ints .u8 512 g2⟩]⟩

noncomputable def spec_l02Turned.sx0_0 (t0 : Nat → Int) (o9 : Nat → Int) : St := ⟨sl 34 [(2, .sptr [(1, 512)]), (3, .sptr [(2, 512)])], [⟨true, .ints .u8 512 t0⟩, ⟨true, .ints .u8 512 (fun _ => 0)⟩, ⟨true, .ints .u8 512 o9⟩]⟩

noncomputable def spec_l02Turned.k1g {ρ : Type} (N : Nat) (L0 : St → Option ρ) (kv : XE → St → Option ρ) : XE → St → Option ρ := (blockK spec_l02Turned.kp 0 2 (blockK spec_l02Turned.kp 0 1 (seqK (xcode (E63 N) ents spec_l02Turned.kp 0 N (cB (cB (cL (cK (cB (cA (cB (cB spec_l02Turned.bd)))))))) 0) (roundK spec_l02Turned.kp 0 0 L0 kv))))

theorem spec_l02Turned.k1_mix {ρ : Type} (N : Nat) (K : AV → Heap → Option ρ) (L0 : St → Option ρ) : mixK (spec_l02Turned.fin N K .ret) (spec_l02Turned.k1g N L0 (spec_l02Turned.k0 N K)) = (spec_l02Turned.k1g N L0 (spec_l02Turned.k0 N K)) := by
  funext e s; cases e <;> rfl

noncomputable def spec_l02Turned.st1 (t0 : Nat → Int) (i1 : Int) (j3 : Int) (g4 : Nat → Int) : St := ⟨sl 34 [(1, .sptr [(0, 512)]), (2, .sptr [(1, 512)]), (3, .sptr [(2, 512)]), (4, .int .i64 (i1)), (5, .int .i64 (j3))], [⟨true, .ints .u8 512 t0⟩, ⟨true, .ints .u8 512 (fun _ => 0)⟩, ⟨true, .ints .u8 512 g4⟩]⟩

noncomputable def spec_l02Turned.sx1_0 (t0 : Nat → Int) (i1 : Int) (o8 : Nat → Int) : St := ⟨sl 34 [(1, .sptr [(0, 512)]), (2, .sptr [(1, 512)]), (3, .sptr [(2, 512)]), (4, .int .i64 (i1))], [⟨true, .ints .u8 512 t0⟩, ⟨true, .ints .u8 512 (fun _ => 0)⟩, ⟨true, .ints .u8 512 o8⟩]⟩

noncomputable def spec_l02Turned.k2g {ρ : Type} (N : Nat) (L1 : St → Option ρ) (kv : XE → St → Option ρ) : XE → St → Option ρ := (blockK spec_l02Turned.kp 0 4 (blockK spec_l02Turned.kp 0 3 (seqK (xcode (E63 N) ents spec_l02Turned.kp 0 N (cB (cB (cL (cK (cB (cK (cA (cB (cL (cK (cB (cA (cB (cB spec_l02Turned.bd)))))))))))))) 2) (roundK spec_l02Turned.kp 0 2 L1 kv))))

theorem spec_l02Turned.k2_mix {ρ : Type} (N : Nat) (K : AV → Heap → Option ρ) (L0 : St → Option ρ) (L1 : St → Option ρ) : mixK (spec_l02Turned.fin N K .ret) (spec_l02Turned.k2g N L1 (spec_l02Turned.k1g N L0 (spec_l02Turned.k0 N K))) = (spec_l02Turned.k2g N L1 (spec_l02Turned.k1g N L0 (spec_l02Turned.k0 N K))) := by
  funext e s; cases e <;> rfl

noncomputable def spec_l02Turned.st2 (t0 : Nat → Int) (i1 : Int) (j3 : Int) (k5 : Int) (g6 : Nat → Int) : St := ⟨sl 34 [(1, .sptr [(0, 512)]), (2, .sptr [(1, 512)]), (3, .sptr [(2, 512)]), (4, .int .i64 (i1)), (5, .int .i64 (j3)), (6, .int .i64 (k5))], [⟨true, .ints .u8 512 t0⟩, ⟨true, .ints .u8 512 (fun _ => 0)⟩, ⟨true, .ints .u8 512 g6⟩]⟩

noncomputable def spec_l02Turned.sx2_0 (t0 : Nat → Int) (i1 : Int) (j3 : Int) (o7 : Nat → Int) : St := ⟨sl 34 [(1, .sptr [(0, 512)]), (2, .sptr [(1, 512)]), (3, .sptr [(2, 512)]), (4, .int .i64 (i1)), (5, .int .i64 (j3))], [⟨true, .ints .u8 512 t0⟩, ⟨true, .ints .u8 512 (fun _ => 0)⟩, ⟨true, .ints .u8 512 o7⟩]⟩

theorem spec_l02Turned.b2_gen {ρ : Type} (N : Nat) (K : AV → Heap → Option ρ) (L2 : St → Option ρ) (kv : XE → St → Option ρ) (t0 : Nat → Int) (i1 : Int) (j3 : Int) (k5 : Int) (g6 : Nat → Int) :
    xcode (E63 N) ents spec_l02Turned.kp 0 N (cL (cK (cB (cK (cA (cB (cL (cK (cB (cK (cA (cB (cL (cK (cB (cA (cB (cB spec_l02Turned.bd)))))))))))))))))) 4 (spec_l02Turned.st2 t0 i1 j3 k5 g6) (roundK spec_l02Turned.kp 0 4 L2 (mixK (spec_l02Turned.fin N K .ret) kv)) = (spec_l02Turned.b2 N (fun d0 => K (.agg [⟨.u8, 512, d0⟩]) []) (fun k5 g6 => L2 (spec_l02Turned.st2 t0 i1 j3 k5 g6)) (fun o7 => kv (.exit 4) (spec_l02Turned.sx2_0 t0 i1 j3 o7)) t0 i1 j3 k5 g6) := by kernel_rfl

theorem spec_l02Turned.b2_eq {ρ : Type} (N : Nat) (K : AV → Heap → Option ρ) (L0 : St → Option ρ) (L1 : St → Option ρ) (L2 : St → Option ρ) (t0 : Nat → Int) (i1 : Int) (j3 : Int) (k5 : Int) (g6 : Nat → Int) :
    xcode (E63 N) ents spec_l02Turned.kp 0 N (cL (cK (cB (cK (cA (cB (cL (cK (cB (cK (cA (cB (cL (cK (cB (cA (cB (cB spec_l02Turned.bd)))))))))))))))))) 4 (spec_l02Turned.st2 t0 i1 j3 k5 g6) (roundK spec_l02Turned.kp 0 4 L2 (spec_l02Turned.k2g N L1 (spec_l02Turned.k1g N L0 (spec_l02Turned.k0 N K)))) = (spec_l02Turned.b2 N (fun d0 => K (.agg [⟨.u8, 512, d0⟩]) []) (fun k5 g6 => L2 (spec_l02Turned.st2 t0 i1 j3 k5 g6)) (fun o7 => (spec_l02Turned.k2g N L1 (spec_l02Turned.k1g N L0 (spec_l02Turned.k0 N K))) (.exit 4) (spec_l02Turned.sx2_0 t0 i1 j3 o7)) t0 i1 j3 k5 g6) := by
  have h := spec_l02Turned.b2_gen N K L2 (spec_l02Turned.k2g N L1 (spec_l02Turned.k1g N L0 (spec_l02Turned.k0 N K))) t0 i1 j3 k5 g6
  rw [spec_l02Turned.k2_mix] at h
  exact h

theorem spec_l02Turned.a2_0_gen {ρ : Type} (N : Nat) (K : AV → Heap → Option ρ) (L1 : St → Option ρ) (kv : XE → St → Option ρ) (t0 : Nat → Int) (i1 : Int) (j3 : Int) (o7 : Nat → Int) :
    (spec_l02Turned.k2g N L1 (mixK (spec_l02Turned.fin N K .ret) kv)) (.exit 4) (spec_l02Turned.sx2_0 t0 i1 j3 o7) = (spec_l02Turned.a2_0 N (fun d0 => K (.agg [⟨.u8, 512, d0⟩]) []) (fun j3 g4 => L1 (spec_l02Turned.st1 t0 i1 j3 g4)) (fun o8 => kv (.exit 2) (spec_l02Turned.sx1_0 t0 i1 o8)) j3 o7) := by kernel_rfl

theorem spec_l02Turned.a2_0_eq {ρ : Type} (N : Nat) (K : AV → Heap → Option ρ) (L0 : St → Option ρ) (L1 : St → Option ρ) (t0 : Nat → Int) (i1 : Int) (j3 : Int) (o7 : Nat → Int) :
    (spec_l02Turned.k2g N L1 (spec_l02Turned.k1g N L0 (spec_l02Turned.k0 N K))) (.exit 4) (spec_l02Turned.sx2_0 t0 i1 j3 o7) = (spec_l02Turned.a2_0 N (fun d0 => K (.agg [⟨.u8, 512, d0⟩]) []) (fun j3 g4 => L1 (spec_l02Turned.st1 t0 i1 j3 g4)) (fun o8 => (spec_l02Turned.k1g N L0 (spec_l02Turned.k0 N K)) (.exit 2) (spec_l02Turned.sx1_0 t0 i1 o8)) j3 o7) := by
  have h := spec_l02Turned.a2_0_gen N K L1 (spec_l02Turned.k1g N L0 (spec_l02Turned.k0 N K)) t0 i1 j3 o7
  rw [spec_l02Turned.k1_mix] at h
  exact h

theorem spec_l02Turned.b1_gen {ρ : Type} (N : Nat) (K : AV → Heap → Option ρ) (L1 : St → Option ρ) (kv : XE → St → Option ρ) (t0 : Nat → Int) (i1 : Int) (j3 : Int) (g4 : Nat → Int) :
    xcode (E63 N) ents spec_l02Turned.kp 0 N (cL (cK (cB (cK (cA (cB (cL (cK (cB (cA (cB (cB spec_l02Turned.bd)))))))))))) 2 (spec_l02Turned.st1 t0 i1 j3 g4) (roundK spec_l02Turned.kp 0 2 L1 (mixK (spec_l02Turned.fin N K .ret) kv)) = (spec_l02Turned.b1 N (fun d0 => K (.agg [⟨.u8, 512, d0⟩]) []) (fun k5 g6 => xloop (xcode (E63 N) ents spec_l02Turned.kp 0 N (cL (cK (cB (cK (cA (cB (cL (cK (cB (cK (cA (cB (cL (cK (cB (cA (cB (cB spec_l02Turned.bd)))))))))))))))))) 4) spec_l02Turned.kp 0 4 N (spec_l02Turned.st2 t0 i1 j3 k5 g6) (spec_l02Turned.k2g N L1 (mixK (spec_l02Turned.fin N K .ret) kv))) (fun j3 g4 => L1 (spec_l02Turned.st1 t0 i1 j3 g4)) (fun o8 => kv (.exit 2) (spec_l02Turned.sx1_0 t0 i1 o8)) j3 g4) := by kernel_rfl

theorem spec_l02Turned.b1_eq {ρ : Type} (N : Nat) (K : AV → Heap → Option ρ) (L0 : St → Option ρ) (L1 : St → Option ρ) (t0 : Nat → Int) (i1 : Int) (j3 : Int) (g4 : Nat → Int) :
    xcode (E63 N) ents spec_l02Turned.kp 0 N (cL (cK (cB (cK (cA (cB (cL (cK (cB (cA (cB (cB spec_l02Turned.bd)))))))))))) 2 (spec_l02Turned.st1 t0 i1 j3 g4) (roundK spec_l02Turned.kp 0 2 L1 (spec_l02Turned.k1g N L0 (spec_l02Turned.k0 N K))) = (spec_l02Turned.b1 N (fun d0 => K (.agg [⟨.u8, 512, d0⟩]) []) (fun k5 g6 => xloop (xcode (E63 N) ents spec_l02Turned.kp 0 N (cL (cK (cB (cK (cA (cB (cL (cK (cB (cK (cA (cB (cL (cK (cB (cA (cB (cB spec_l02Turned.bd)))))))))))))))))) 4) spec_l02Turned.kp 0 4 N (spec_l02Turned.st2 t0 i1 j3 k5 g6) (spec_l02Turned.k2g N L1 (spec_l02Turned.k1g N L0 (spec_l02Turned.k0 N K)))) (fun j3 g4 => L1 (spec_l02Turned.st1 t0 i1 j3 g4)) (fun o8 => (spec_l02Turned.k1g N L0 (spec_l02Turned.k0 N K)) (.exit 2) (spec_l02Turned.sx1_0 t0 i1 o8)) j3 g4) := by
  have h := spec_l02Turned.b1_gen N K L1 (spec_l02Turned.k1g N L0 (spec_l02Turned.k0 N K)) t0 i1 j3 g4
  rw [spec_l02Turned.k1_mix] at h
  exact h

theorem spec_l02Turned.a1_0_gen {ρ : Type} (N : Nat) (K : AV → Heap → Option ρ) (L0 : St → Option ρ) (kv : XE → St → Option ρ) (t0 : Nat → Int) (i1 : Int) (o8 : Nat → Int) :
    (spec_l02Turned.k1g N L0 (mixK (spec_l02Turned.fin N K .ret) kv)) (.exit 2) (spec_l02Turned.sx1_0 t0 i1 o8) = (spec_l02Turned.a1_0 N (fun d0 => K (.agg [⟨.u8, 512, d0⟩]) []) (fun i1 g2 => L0 (spec_l02Turned.st0 t0 i1 g2)) (fun o9 => kv (.exit 0) (spec_l02Turned.sx0_0 t0 o9)) i1 o8) := by kernel_rfl

theorem spec_l02Turned.a1_0_eq {ρ : Type} (N : Nat) (K : AV → Heap → Option ρ) (L0 : St → Option ρ) (t0 : Nat → Int) (i1 : Int) (o8 : Nat → Int) :
    (spec_l02Turned.k1g N L0 (spec_l02Turned.k0 N K)) (.exit 2) (spec_l02Turned.sx1_0 t0 i1 o8) = (spec_l02Turned.a1_0 N (fun d0 => K (.agg [⟨.u8, 512, d0⟩]) []) (fun i1 g2 => L0 (spec_l02Turned.st0 t0 i1 g2)) (fun o9 => (spec_l02Turned.k0 N K) (.exit 0) (spec_l02Turned.sx0_0 t0 o9)) i1 o8) := by
  have h := spec_l02Turned.a1_0_gen N K L0 (spec_l02Turned.k0 N K) t0 i1 o8
  rw [spec_l02Turned.k0_mix] at h
  exact h

theorem spec_l02Turned.b0_gen {ρ : Type} (N : Nat) (K : AV → Heap → Option ρ) (L0 : St → Option ρ) (kv : XE → St → Option ρ) (t0 : Nat → Int) (i1 : Int) (g2 : Nat → Int) :
    xcode (E63 N) ents spec_l02Turned.kp 0 N (cL (cK (cB (cA (cB (cB spec_l02Turned.bd)))))) 0 (spec_l02Turned.st0 t0 i1 g2) (roundK spec_l02Turned.kp 0 0 L0 (mixK (spec_l02Turned.fin N K .ret) kv)) = (spec_l02Turned.b0 N (fun d0 => K (.agg [⟨.u8, 512, d0⟩]) []) (fun j3 g4 => xloop (xcode (E63 N) ents spec_l02Turned.kp 0 N (cL (cK (cB (cK (cA (cB (cL (cK (cB (cA (cB (cB spec_l02Turned.bd)))))))))))) 2) spec_l02Turned.kp 0 2 N (spec_l02Turned.st1 t0 i1 j3 g4) (spec_l02Turned.k1g N L0 (mixK (spec_l02Turned.fin N K .ret) kv))) (fun i1 g2 => L0 (spec_l02Turned.st0 t0 i1 g2)) (fun o9 => kv (.exit 0) (spec_l02Turned.sx0_0 t0 o9)) i1 g2) := by kernel_rfl

theorem spec_l02Turned.b0_eq {ρ : Type} (N : Nat) (K : AV → Heap → Option ρ) (L0 : St → Option ρ) (t0 : Nat → Int) (i1 : Int) (g2 : Nat → Int) :
    xcode (E63 N) ents spec_l02Turned.kp 0 N (cL (cK (cB (cA (cB (cB spec_l02Turned.bd)))))) 0 (spec_l02Turned.st0 t0 i1 g2) (roundK spec_l02Turned.kp 0 0 L0 (spec_l02Turned.k0 N K)) = (spec_l02Turned.b0 N (fun d0 => K (.agg [⟨.u8, 512, d0⟩]) []) (fun j3 g4 => xloop (xcode (E63 N) ents spec_l02Turned.kp 0 N (cL (cK (cB (cK (cA (cB (cL (cK (cB (cA (cB (cB spec_l02Turned.bd)))))))))))) 2) spec_l02Turned.kp 0 2 N (spec_l02Turned.st1 t0 i1 j3 g4) (spec_l02Turned.k1g N L0 (spec_l02Turned.k0 N K))) (fun i1 g2 => L0 (spec_l02Turned.st0 t0 i1 g2)) (fun o9 => (spec_l02Turned.k0 N K) (.exit 0) (spec_l02Turned.sx0_0 t0 o9)) i1 g2) := by
  have h := spec_l02Turned.b0_gen N K L0 (spec_l02Turned.k0 N K) t0 i1 g2
  rw [spec_l02Turned.k0_mix] at h
  exact h

theorem spec_l02Turned.a0_0_eq {ρ : Type} (N : Nat) (K : AV → Heap → Option ρ) (t0 : Nat → Int) (o9 : Nat → Int) :
    (spec_l02Turned.k0 N K) (.exit 0) (spec_l02Turned.sx0_0 t0 o9) = (spec_l02Turned.a0_0 N (fun d0 => K (.agg [⟨.u8, 512, d0⟩]) []) o9) := by kernel_rfl

theorem spec_l02Turned.l2_eq {ρ : Type} (N : Nat) (K : AV → Heap → Option ρ) (L0 : St → Option ρ) (L1 : St → Option ρ) (t0 : Nat → Int) (i1 : Int) (j3 : Int) :
    ∀ (m : Nat) (k5 : Int) (g6 : Nat → Int), xloop (xcode (E63 N) ents spec_l02Turned.kp 0 N (cL (cK (cB (cK (cA (cB (cL (cK (cB (cK (cA (cB (cL (cK (cB (cA (cB (cB spec_l02Turned.bd)))))))))))))))))) 4) spec_l02Turned.kp 0 4 m (spec_l02Turned.st2 t0 i1 j3 k5 g6) (spec_l02Turned.k2g N L1 (spec_l02Turned.k1g N L0 (spec_l02Turned.k0 N K))) = (spec_l02Turned.l2 N (fun d0 => K (.agg [⟨.u8, 512, d0⟩]) []) t0 i1 j3 (fun o7 => (spec_l02Turned.k2g N L1 (spec_l02Turned.k1g N L0 (spec_l02Turned.k0 N K))) (.exit 4) (spec_l02Turned.sx2_0 t0 i1 j3 o7)) m k5 g6) := by
  intro m
  induction m with
  | zero => intros; rfl
  | succ m ih =>
    intro k5 g6
    refine (spec_l02Turned.b2_eq N K L0 L1 (fun s => xloop (xcode (E63 N) ents spec_l02Turned.kp 0 N (cL (cK (cB (cK (cA (cB (cL (cK (cB (cK (cA (cB (cL (cK (cB (cA (cB (cB spec_l02Turned.bd)))))))))))))))))) 4) spec_l02Turned.kp 0 4 m s (spec_l02Turned.k2g N L1 (spec_l02Turned.k1g N L0 (spec_l02Turned.k0 N K)))) t0 i1 j3 k5 g6).trans ?_
    simp only [ih]
    kernel_rfl

theorem spec_l02Turned.l1_eq {ρ : Type} (N : Nat) (K : AV → Heap → Option ρ) (L0 : St → Option ρ) (t0 : Nat → Int) (i1 : Int) :
    ∀ (m : Nat) (j3 : Int) (g4 : Nat → Int), xloop (xcode (E63 N) ents spec_l02Turned.kp 0 N (cL (cK (cB (cK (cA (cB (cL (cK (cB (cA (cB (cB spec_l02Turned.bd)))))))))))) 2) spec_l02Turned.kp 0 2 m (spec_l02Turned.st1 t0 i1 j3 g4) (spec_l02Turned.k1g N L0 (spec_l02Turned.k0 N K)) = (spec_l02Turned.l1 N (fun d0 => K (.agg [⟨.u8, 512, d0⟩]) []) t0 i1 (fun o8 => (spec_l02Turned.k1g N L0 (spec_l02Turned.k0 N K)) (.exit 2) (spec_l02Turned.sx1_0 t0 i1 o8)) m j3 g4) := by
  intro m
  induction m with
  | zero => intros; rfl
  | succ m ih =>
    intro j3 g4
    refine (spec_l02Turned.b1_eq N K L0 (fun s => xloop (xcode (E63 N) ents spec_l02Turned.kp 0 N (cL (cK (cB (cK (cA (cB (cL (cK (cB (cA (cB (cB spec_l02Turned.bd)))))))))))) 2) spec_l02Turned.kp 0 2 m s (spec_l02Turned.k1g N L0 (spec_l02Turned.k0 N K))) t0 i1 j3 g4).trans ?_
    simp only [ih, spec_l02Turned.l2_eq, spec_l02Turned.a2_0_eq]
    kernel_rfl

theorem spec_l02Turned.l0_eq {ρ : Type} (N : Nat) (K : AV → Heap → Option ρ) (t0 : Nat → Int) :
    ∀ (m : Nat) (i1 : Int) (g2 : Nat → Int), xloop (xcode (E63 N) ents spec_l02Turned.kp 0 N (cL (cK (cB (cA (cB (cB spec_l02Turned.bd)))))) 0) spec_l02Turned.kp 0 0 m (spec_l02Turned.st0 t0 i1 g2) (spec_l02Turned.k0 N K) = (spec_l02Turned.l0 N (fun d0 => K (.agg [⟨.u8, 512, d0⟩]) []) t0 (fun o9 => (spec_l02Turned.k0 N K) (.exit 0) (spec_l02Turned.sx0_0 t0 o9)) m i1 g2) := by
  intro m
  induction m with
  | zero => intros; rfl
  | succ m ih =>
    intro i1 g2
    refine (spec_l02Turned.b0_eq N K (fun s => xloop (xcode (E63 N) ents spec_l02Turned.kp 0 N (cL (cK (cB (cA (cB (cB spec_l02Turned.bd)))))) 0) spec_l02Turned.kp 0 0 m s (spec_l02Turned.k0 N K)) t0 i1 g2).trans ?_
    simp only [ih, spec_l02Turned.l1_eq, spec_l02Turned.a1_0_eq]
    kernel_rfl

theorem spec_l02Turned.s_eq {ρ : Type} (N : Nat) (K : AV → Heap → Option ρ) (t0 : Nat → Int) :
    xbody (E63 N) ents spec_l02Turned.kp N Go.Proofs.Try.f70 spec_l02Turned.bd [.agg [⟨.u8, 512, t0⟩]] [] K = (spec_l02Turned.s N (fun d0 => K (.agg [⟨.u8, 512, d0⟩]) []) (fun i1 g2 => xloop (xcode (E63 N) ents spec_l02Turned.kp 0 N (cL (cK (cB (cA (cB (cB spec_l02Turned.bd)))))) 0) spec_l02Turned.kp 0 0 N (spec_l02Turned.st0 t0 i1 g2) (spec_l02Turned.k0 N K))) := by kernel_rfl

theorem spec_l02Turned.eq {ρ : Type} (N : Nat) (K : AV → Heap → Option ρ) (t0 : Nat → Int) :
    xbody (E63 N) ents spec_l02Turned.kp N Go.Proofs.Try.f70 spec_l02Turned.bd [.agg [⟨.u8, 512, t0⟩]] [] K = (spec_l02Turned N (fun d0 => K (.agg [⟨.u8, 512, d0⟩]) []) t0) := by
  refine (spec_l02Turned.s_eq N K t0).trans ?_
  simp only [spec_l02Turned.l0_eq, spec_l02Turned.a0_0_eq]
  kernel_rfl

noncomputable def spec_l02Turned.en (N : Nat) (ρ : Type) : List AV → Heap → (AV → Heap → Option ρ) → Option ρ
  | [.agg [⟨.u8, 512, t0⟩]], [], K => (spec_l02Turned N (fun d0 => K (.agg [⟨.u8, 512, d0⟩]) []) t0)
  | _, _, _ => none

theorem spec_l02Turned.en_ok (N : Nat) (hE : EnvOk (E63 N) ents) (ρ : Type) (args : List AV) (sh : Heap) (K : AV → Heap → Option ρ) (r : ρ) (h : spec_l02Turned.en N ρ args sh K = some r) : ∃ v sh', K v sh' = some r ∧ FnOk (E63 N).P 70 args sh v sh' := by
  unfold spec_l02Turned.en at h
  split at h
  · exact fn_ok hE (kp := spec_l02Turned.kp) (N := N) Go.Proofs.Try.func70 (c := spec_l02Turned.bd) (by kernel_rfl) ((spec_l02Turned.eq N _ _).trans h)
  · cases h

noncomputable def E64 (N : Nat) : Env := (E63 N).add 70 (spec_l02Turned.en N)

theorem E64_ok (N : Nat) : EnvOk (E64 N) ents := Env.add_ok (E63_ok N) (spec_l02Turned.en_ok N (E63_ok N))

noncomputable def spec_DualAlgebra.kp : Keeps := ⟨[], []⟩

noncomputable def spec_DualAlgebra.bd : Code := bodyOf Go.Proofs.Try.f31

noncomputable def spec_DualAlgebra.fin {ρ : Type} (N : Nat) (K : AV → Heap → Option ρ) : XE → St → Option ρ := finK (E64 N) Go.Proofs.Try.f31 [] K

theorem spec_DualAlgebra.eq {ρ : Type} (N : Nat) (K : AV → Heap → Option ρ) (c0 : Nat → Int) (c1 : Nat → Int) :
    xbody (E64 N) ents spec_DualAlgebra.kp N Go.Proofs.Try.f31 spec_DualAlgebra.bd [.agg [⟨.i64, 2, c0⟩, ⟨.u8, 520, c1⟩]] [] K = (spec_DualAlgebra N (fun d0 d1 d2 => K (.tup [.agg [⟨.i64, 2, d0⟩, ⟨.u8, 520, d1⟩], .int .i64 (d2)]) []) c0 c1) := by kernel_rfl

noncomputable def spec_DualAlgebra.en (N : Nat) (ρ : Type) : List AV → Heap → (AV → Heap → Option ρ) → Option ρ
  | [.agg [⟨.i64, 2, c0⟩, ⟨.u8, 520, c1⟩]], [], K => (spec_DualAlgebra N (fun d0 d1 d2 => K (.tup [.agg [⟨.i64, 2, d0⟩, ⟨.u8, 520, d1⟩], .int .i64 (d2)]) []) c0 c1)
  | _, _, _ => none

theorem spec_DualAlgebra.en_ok (N : Nat) (hE : EnvOk (E64 N) ents) (ρ : Type) (args : List AV) (sh : Heap) (K : AV → Heap → Option ρ) (r : ρ) (h : spec_DualAlgebra.en N ρ args sh K = some r) : ∃ v sh', K v sh' = some r ∧ FnOk (E64 N).P 31 args sh v sh' := by
  unfold spec_DualAlgebra.en at h
  split at h
  · exact fn_ok hE (kp := spec_DualAlgebra.kp) (N := N) Go.Proofs.Try.func31 (c := spec_DualAlgebra.bd) (by kernel_rfl) ((spec_DualAlgebra.eq N _ _ _).trans h)
  · cases h

noncomputable def E65 (N : Nat) : Env := (E64 N).add 31 (spec_DualAlgebra.en N)

theorem E65_ok (N : Nat) : EnvOk (E65 N) ents := Env.add_ok (E64_ok N) (spec_DualAlgebra.en_ok N (E64_ok N))

noncomputable def impl_dualBack.kp : Keeps := ⟨[(0, [0, 2, 3, 8], 3), (2, [0, 2, 3, 4, 8, 11], 3), (4, [0, 2, 3, 4, 5, 8, 11, 14], 3)], [(0, [2, 3], 3), (2, [0, 2, 3, 8], 3), (4, [0, 2, 3, 4, 8, 11], 3)]⟩

noncomputable def impl_dualBack.bd : Code := bodyOf Go.Proofs.Try.f71

noncomputable def impl_dualBack.fin {ρ : Type} (N : Nat) (K : AV → Heap → Option ρ) (g0 : Nat → Int) : XE → St → Option ρ := finK (E65 N) Go.Proofs.Try.f71 [⟨false, .ints .u8 512 g0⟩] K

noncomputable def impl_dualBack.k0 {ρ : Type} (N : Nat) (K : AV → Heap → Option ρ) (g0 : Nat → Int) : XE → St → Option ρ := (blockK impl_dualBack.kp 1 0 (seqK (xcode (E65 N) ents impl_dualBack.kp 1 N (cB (cB (cB impl_dualBack.bd))) 0) (impl_dualBack.fin N K g0)))

theorem impl_dualBack.k0_mix {ρ : Type} (N : Nat) (K : AV → Heap → Option ρ) (g0 : Nat → Int) : mixK (impl_dualBack.fin N K g0 .ret) (impl_dualBack.k0 N K g0) = (impl_dualBack.k0 N K g0) := by
  funext e s; cases e <;> rfl

noncomputable def impl_dualBack.st0 (g0 : Nat → Int) (x1 : Int) (g2 : Nat → Int) : St := ⟨sl 36 [(0, .sptr [(0, 512)]), (2, .sptr [(1, 512)]), (3, .sptr [(2, 512)]), (8, .int .i64 (x1))], [⟨false, .ints .u8 512 g0⟩, ⟨true, .ints .u8 512 (fun _ => 0)⟩, ⟨true, .ints .u8 512 g2⟩]⟩

noncomputable def impl_dualBack.sx0_0 (g0 : Nat → Int) (o9 : Nat → Int) : St := ⟨sl 36 [(2, .sptr [(1, 512)]), (3, .sptr [(2, 512)])], [⟨false, .ints .u8 512 g0⟩, ⟨true, .ints .u8 512 (fun _ => 0)⟩, ⟨true, .ints .u8 512 o9⟩]⟩

noncomputable def impl_dualBack.k1g {ρ : Type} (N : Nat) (L0 : St → Option ρ) (kv : XE → St → Option ρ) : XE → St → Option ρ := (blockK impl_dualBack.kp 1 2 (blockK impl_dualBack.kp 1 1 (seqK (xcode (E65 N) ents impl_dualBack.kp 1 N (cB (cB (cB (cL (cK (cB (cA (cB (cB impl_dualBack.bd))))))))) 0) (roundK impl_dualBack.kp 1 0 L0 kv))))

theorem impl_dualBack.k1_mix {ρ : Type} (N : Nat) (K : AV → Heap → Option ρ) (L0 : St → Option ρ) (g0 : Nat → Int) : mixK (impl_dualBack.fin N K g0 .ret) (impl_dualBack.k1g N L0 (impl_dualBack.k0 N K g0)) = (impl_dualBack.k1g N L0 (impl_dualBack.k0 N K g0)) := by
  funext e s; cases e <;> rfl

noncomputable def impl_dualBack.st1 (g0 : Nat → Int) (x1 : Int) (x3 : Int) (g4 : Nat → Int) : St := ⟨sl 36 [(0, .sptr [(0, 512)]), (2, .sptr [(1, 512)]), (3, .sptr [(2, 512)]), (4, .int .i64 (x1)), (8, .int .i64 (x1)), (11, .int .i64 (x3))], [⟨false, .ints .u8 512 g0⟩, ⟨true, .ints .u8 512 (fun _ => 0)⟩, ⟨true, .ints .u8 512 g4⟩]⟩

noncomputable def impl_dualBack.sx1_0 (g0 : Nat → Int) (x1 : Int) (o8 : Nat → Int) : St := ⟨sl 36 [(0, .sptr [(0, 512)]), (2, .sptr [(1, 512)]), (3, .sptr [(2, 512)]), (8, .int .i64 (x1))], [⟨false, .ints .u8 512 g0⟩, ⟨true, .ints .u8 512 (fun _ => 0)⟩, ⟨true, .ints .u8 512 o8⟩]⟩

noncomputable def impl_dualBack.k2g {ρ : Type} (N : Nat) (L1 : St → Option ρ) (kv : XE → St → Option ρ) : XE → St → Option ρ := (blockK impl_dualBack.kp 1 4 (blockK impl_dualBack.kp 1 3 (seqK (xcode (E65 N) ents impl_dualBack.kp 1 N (cB (cB (cB (cL (cK (cB (cB (cK (cA (cB (cB (cL (cK (cB (cA (cB (cB impl_dualBack.bd))))))))))))))))) 2) (roundK impl_dualBack.kp 1 2 L1 kv))))

theorem impl_dualBack.k2_mix {ρ : Type} (N : Nat) (K : AV → Heap → Option ρ) (L0 : St → Option ρ) (L1 : St → Option ρ) (g0 : Nat → Int) : mixK (impl_dualBack.fin N K g0 .ret) (impl_dualBack.k2g N L1 (impl_dualBack.k1g N L0 (impl_dualBack.k0 N K g0))) = (impl_dualBack.k2g N L1 (impl_dualBack.k1g N L0 (impl_dualBack.k0 N K g0))) := by
  funext e s; cases e <;> rfl

noncomputable def impl_dualBack.st2 (g0 : Nat → Int) (x1 : Int) (x3 : Int) (x5 : Int) (g6 : Nat → Int) : St := ⟨sl 36 [(0, .sptr [(0, 512)]), (2, .sptr [(1, 512)]), (3, .sptr [(2, 512)]), (4, .int .i64 (x1)), (5, .int .i64 (x3)), (8, .int .i64 (x1)), (11, .int .i64 (x3)), (14, .int .i64 (x5))], [⟨false, .ints .u8 512 g0⟩, ⟨true, .ints .u8 512 (fun _ => 0)⟩, ⟨true, .ints .u8 512 g6⟩]⟩

noncomputable def impl_dualBack.sx2_0 (g0 : Nat → Int) (x1 : Int) (x3 : Int) (o7 : Nat → Int) : St := ⟨sl 36 [(0, .sptr [(0, 512)]), (2, .sptr [(1, 512)]), (3, .sptr [(2, 512)]), (4, .int .i64 (x1)), (8, .int .i64 (x1)), (11, .int .i64 (x3))], [⟨false, .ints .u8 512 g0⟩, ⟨true, .ints .u8 512 (fun _ => 0)⟩, ⟨true, .ints .u8 512 o7⟩]⟩

theorem impl_dualBack.b2_gen {ρ : Type} (N : Nat) (K : AV → Heap → Option ρ) (L2 : St → Option ρ) (kv : XE → St → Option ρ) (g0 : Nat → Int) (x1 : Int) (x3 : Int) (x5 : Int) (g6 : Nat → Int) :
    xcode (E65 N) ents impl_dualBack.kp 1 N (cL (cK (cB (cB (cK (cA (cB (cB (cL (cK (cB (cB (cK (cA (cB (cB (cL (cK (cB (cA (cB (cB impl_dualBack.bd)))))))))))))))))))))) 4 (impl_dualBack.st2 g0 x1 x3 x5 g6) (roundK impl_dualBack.kp 1 4 L2 (mixK (impl_dualBack.fin N K g0 .ret) kv)) = (impl_dualBack.b2 N (fun d0 => K (.agg [⟨.u8, 512, d0⟩]) [⟨false, .ints .u8 512 g0⟩]) (fun x5 g6 => L2 (impl_dualBack.st2 g0 x1 x3 x5 g6)) (fun o7 => kv (.exit 4) (impl_dualBack.sx2_0 g0 x1 x3 o7)) g0 x1 x3 x5 g6) := by kernel_rfl

theorem impl_dualBack.b2_eq {ρ : Type} (N : Nat) (K : AV → Heap → Option ρ) (L0 : St → Option ρ) (L1 : St → Option ρ) (L2 : St → Option ρ) (g0 : Nat → Int) (x1 : Int) (x3 : Int) (x5 : Int) (g6 : Nat → Int) :
    xcode (E65 N) ents impl_dualBack.kp 1 N (cL (cK (cB (cB (cK (cA (cB (cB (cL (cK (cB (cB (cK (cA (cB (cB (cL (cK (cB (cA (cB (cB impl_dualBack.bd)))))))))))))))))))))) 4 (impl_dualBack.st2 g0 x1 x3 x5 g6) (roundK impl_dualBack.kp 1 4 L2 (impl_dualBack.k2g N L1 (impl_dualBack.k1g N L0 (impl_dualBack.k0 N K g0)))) = (impl_dualBack.b2 N (fun d0 => K (.agg [⟨.u8, 512, d0⟩]) [⟨false, .ints .u8 512 g0⟩]) (fun x5 g6 => L2 (impl_dualBack.st2 g0 x1 x3 x5 g6)) (fun o7 => (impl_dualBack.k2g N L1 (impl_dualBack.k1g N L0 (impl_dualBack.k0 N K g0))) (.exit 4) (impl_dualBack.sx2_0 g0 x1 x3 o7)) g0 x1 x3 x5 g6) := by
  have h := impl_dualBack.b2_gen N K L2 (impl_dualBack.k2g N L1 (impl_dualBack.k1g N L0 (impl_dualBack.k0 N K g0))) g0 x1 x3 x5 g6
  rw [impl_dualBack.k2_mix] at h
  exact h

theorem impl_dualBack.a2_0_gen {ρ : Type} (N : Nat) (K : AV → Heap → Option ρ) (L1 : St → Option ρ) (kv : XE → St → Option ρ) (g0 : Nat → Int) (x1 : Int) (x3 : Int) (o7 : Nat → Int) :
    (impl_dualBack.k2g N L1 (mixK (impl_dualBack.fin N K g0 .ret) kv)) (.exit 4) (impl_dualBack.sx2_0 g0 x1 x3 o7) = (impl_dualBack.a2_0 N (fun d0 => K (.agg [⟨.u8, 512, d0⟩]) [⟨false, .ints .u8 512 g0⟩]) (fun x3 g4 => L1 (impl_dualBack.st1 g0 x1 x3 g4)) (fun o8 => kv (.exit 2) (impl_dualBack.sx1_0 g0 x1 o8)) x3 o7) := by kernel_rfl

theorem impl_dualBack.a2_0_eq {ρ : Type} (N : Nat) (K : AV → Heap → Option ρ) (L0 : St → Option ρ) (L1 : St → Option ρ) (g0 : Nat → Int) (x1 : Int) (x3 : Int) (o7 : Nat → Int) :
    (impl_dualBack.k2g N L1 (impl_dualBack.k1g N L0 (impl_dualBack.k0 N K g0))) (.exit 4) (impl_dualBack.sx2_0 g0 x1 x3 o7) = (impl_dualBack.a2_0 N (fun d0 => K (.agg [⟨.u8, 512, d0⟩]) [⟨false, .ints .u8 512 g0⟩]) (fun x3 g4 => L1 (impl_dualBack.st1 g0 x1 x3 g4)) (fun o8 => (impl_dualBack.k1g N L0 (impl_dualBack.k0 N K g0)) (.exit 2) (impl_dualBack.sx1_0 g0 x1 o8)) x3 o7) := by
  have h := impl_dualBack.a2_0_gen N K L1 (impl_dualBack.k1g N L0 (impl_dualBack.k0 N K g0)) g0 x1 x3 o7
  rw [impl_dualBack.k1_mix] at h
  exact h

theorem impl_dualBack.b1_gen {ρ : Type} (N : Nat) (K : AV → Heap → Option ρ) (L1 : St → Option ρ) (kv : XE → St → Option ρ) (g0 : Nat → Int) (x1 : Int) (x3 : Int) (g4 : Nat → Int) :
    xcode (E65 N) ents impl_dualBack.kp 1 N (cL (cK (cB (cB (cK (cA (cB (cB (cL (cK (cB (cA (cB (cB impl_dualBack.bd)))))))))))))) 2 (impl_dualBack.st1 g0 x1 x3 g4) (roundK impl_dualBack.kp 1 2 L1 (mixK (impl_dualBack.fin N K g0 .ret) kv)) = (impl_dualBack.b1 N (fun d0 => K (.agg [⟨.u8, 512, d0⟩]) [⟨false, .ints .u8 512 g0⟩]) (fun x5 g6 => xloop (xcode (E65 N) ents impl_dualBack.kp 1 N (cL (cK (cB (cB (cK (cA (cB (cB (cL (cK (cB (cB (cK (cA (cB (cB (cL (cK (cB (cA (cB (cB impl_dualBack.bd)))))))))))))))))))))) 4) impl_dualBack.kp 1 4 N (impl_dualBack.st2 g0 x1 x3 x5 g6) (impl_dualBack.k2g N L1 (mixK (impl_dualBack.fin N K g0 .ret) kv))) (fun x3 g4 => L1 (impl_dualBack.st1 g0 x1 x3 g4)) (fun o8 => kv (.exit 2) (impl_dualBack.sx1_0 g0 x1 o8)) x3 g4) := by kernel_rfl

theorem impl_dualBack.b1_eq {ρ : Type} (N : Nat) (K : AV → Heap → Option ρ) (L0 : St → Option ρ) (L1 : St → Option ρ) (g0 : Nat → Int) (x1 : Int) (x3 : Int) (g4 : Nat → Int) :
    xcode (E65 N) ents impl_dualBack.kp 1 N (cL (cK (cB (cB (cK (cA (cB (cB (cL (cK (cB (cA (cB (cB impl_dualBack.bd)))))))))))))) 2 (impl_dualBack.st1 g0 x1 x3 g4) (roundK impl_dualBack.kp 1 2 L1 (impl_dualBack.k1g N L0 (impl_dualBack.k0 N K g0))) = (impl_dualBack.b1 N (fun d0 => K (.agg [⟨.u8, 512, d0⟩]) [⟨false, .ints .u8 512 g0⟩]) (fun x5 g6 => xloop (xcode (E65 N) ents impl_dualBack.kp 1 N (cL (cK (cB (cB (cK (cA (cB (cB (cL (cK (cB (cB (cK (cA (cB (cB (cL (cK (cB (cA (cB (cB impl_dualBack.bd)))))))))))))))))))))) 4) impl_dualBack.kp 1 4 N (impl_dualBack.st2 g0 x1 x3 x5 g6) (impl_dualBack.k2g N L1 (impl_dualBack.k1g N L0 (impl_dualBack.k0 N K g0)))) (fun x3 g4 => L1 (impl_dualBack.st1 g0 x1 x3 g4)) (fun o8 => (impl_dualBack.k1g N L0 (impl_dualBack.k0 N K g0)) (.exit 2) (impl_dualBack.sx1_0 g0 x1 o8)) x3 g4) := by
  have h := impl_dualBack.b1_gen N K L1 (impl_dualBack.k1g N L0 (impl_dualBack.k0 N K g0)) g0 x1 x3 g4
  rw [impl_dualBack.k1_mix] at h
  exact h

theorem impl_dualBack.a1_0_gen {ρ : Type} (N : Nat) (K : AV → Heap → Option ρ) (L0 : St → Option ρ) (kv : XE → St → Option ρ) (g0 : Nat → Int) (x1 : Int) (o8 : Nat → Int) :
    (impl_dualBack.k1g N L0 (mixK (impl_dualBack.fin N K g0 .ret) kv)) (.exit 2) (impl_dualBack.sx1_0 g0 x1 o8) = (impl_dualBack.a1_0 N (fun d0 => K (.agg [⟨.u8, 512, d0⟩]) [⟨false, .ints .u8 512 g0⟩]) (fun x1 g2 => L0 (impl_dualBack.st0 g0 x1 g2)) (fun o9 => kv (.exit 0) (impl_dualBack.sx0_0 g0 o9)) x1 o8) := by kernel_rfl

theorem impl_dualBack.a1_0_eq {ρ : Type} (N : Nat) (K : AV → Heap → Option ρ) (L0 : St → Option ρ) (g0 : Nat → Int) (x1 : Int) (o8 : Nat → Int) :
    (impl_dualBack.k1g N L0 (impl_dualBack.k0 N K g0)) (.exit 2) (impl_dualBack.sx1_0 g0 x1 o8) = (impl_dualBack.a1_0 N (fun d0 => K (.agg [⟨.u8, 512, d0⟩]) [⟨false, .ints .u8 512 g0⟩]) (fun x1 g2 => L0 (impl_dualBack.st0 g0 x1 g2)) (fun o9 => (impl_dualBack.k0 N K g0) (.exit 0) (impl_dualBack.sx0_0 g0 o9)) x1 o8) := by
  have h := impl_dualBack.a1_0_gen N K L0 (impl_dualBack.k0 N K g0) g0 x1 o8
  rw [impl_dualBack.k0_mix] at h
  exact h

theorem impl_dualBack.b0_gen {ρ : Type} (N : Nat) (K : AV → Heap → Option ρ) (L0 : St → Option ρ) (kv : XE → St → Option ρ) (g0 : Nat → Int) (x1 : Int) (g2 : Nat → Int) :
    xcode (E65 N) ents impl_dualBack.kp 1 N (cL (cK (cB (cA (cB (cB impl_dualBack.bd)))))) 0 (impl_dualBack.st0 g0 x1 g2) (roundK impl_dualBack.kp 1 0 L0 (mixK (impl_dualBack.fin N K g0 .ret) kv)) = (impl_dualBack.b0 N (fun d0 => K (.agg [⟨.u8, 512, d0⟩]) [⟨false, .ints .u8 512 g0⟩]) (fun x3 g4 => xloop (xcode (E65 N) ents impl_dualBack.kp 1 N (cL (cK (cB (cB (cK (cA (cB (cB (cL (cK (cB (cA (cB (cB impl_dualBack.bd)))))))))))))) 2) impl_dualBack.kp 1 2 N (impl_dualBack.st1 g0 x1 x3 g4) (impl_dualBack.k1g N L0 (mixK (impl_dualBack.fin N K g0 .ret) kv))) (fun x1 g2 => L0 (impl_dualBack.st0 g0 x1 g2)) (fun o9 => kv (.exit 0) (impl_dualBack.sx0_0 g0 o9)) x1 g2) := by kernel_rfl

theorem impl_dualBack.b0_eq {ρ : Type} (N : Nat) (K : AV → Heap → Option ρ) (L0 : St → Option ρ) (g0 : Nat → Int) (x1 : Int) (g2 : Nat → Int) :
    xcode (E65 N) ents impl_dualBack.kp 1 N (cL (cK (cB (cA (cB (cB impl_dualBack.bd)))))) 0 (impl_dualBack.st0 g0 x1 g2) (roundK impl_dualBack.kp 1 0 L0 (impl_dualBack.k0 N K g0)) = (impl_dualBack.b0 N (fun d0 => K (.agg [⟨.u8, 512, d0⟩]) [⟨false, .ints .u8 512 g0⟩]) (fun x3 g4 => xloop (xcode (E65 N) ents impl_dualBack.kp 1 N (cL (cK (cB (cB (cK (cA (cB (cB (cL (cK (cB (cA (cB (cB impl_dualBack.bd)))))))))))))) 2) impl_dualBack.kp 1 2 N (impl_dualBack.st1 g0 x1 x3 g4) (impl_dualBack.k1g N L0 (impl_dualBack.k0 N K g0))) (fun x1 g2 => L0 (impl_dualBack.st0 g0 x1 g2)) (fun o9 => (impl_dualBack.k0 N K g0) (.exit 0) (impl_dualBack.sx0_0 g0 o9)) x1 g2) := by
  have h := impl_dualBack.b0_gen N K L0 (impl_dualBack.k0 N K g0) g0 x1 g2
  rw [impl_dualBack.k0_mix] at h
  exact h

theorem impl_dualBack.a0_0_eq {ρ : Type} (N : Nat) (K : AV → Heap → Option ρ) (g0 : Nat → Int) (o9 : Nat → Int) :
    (impl_dualBack.k0 N K g0) (.exit 0) (impl_dualBack.sx0_0 g0 o9) = (impl_dualBack.a0_0 N (fun d0 => K (.agg [⟨.u8, 512, d0⟩]) [⟨false, .ints .u8 512 g0⟩]) o9) := by kernel_rfl

theorem impl_dualBack.l2_eq {ρ : Type} (N : Nat) (K : AV → Heap → Option ρ) (L0 : St → Option ρ) (L1 : St → Option ρ) (g0 : Nat → Int) (x1 : Int) (x3 : Int) :
    ∀ (m : Nat) (x5 : Int) (g6 : Nat → Int), xloop (xcode (E65 N) ents impl_dualBack.kp 1 N (cL (cK (cB (cB (cK (cA (cB (cB (cL (cK (cB (cB (cK (cA (cB (cB (cL (cK (cB (cA (cB (cB impl_dualBack.bd)))))))))))))))))))))) 4) impl_dualBack.kp 1 4 m (impl_dualBack.st2 g0 x1 x3 x5 g6) (impl_dualBack.k2g N L1 (impl_dualBack.k1g N L0 (impl_dualBack.k0 N K g0))) = (impl_dualBack.l2 N (fun d0 => K (.agg [⟨.u8, 512, d0⟩]) [⟨false, .ints .u8 512 g0⟩]) g0 x1 x3 (fun o7 => (impl_dualBack.k2g N L1 (impl_dualBack.k1g N L0 (impl_dualBack.k0 N K g0))) (.exit 4) (impl_dualBack.sx2_0 g0 x1 x3 o7)) m x5 g6) := by
  intro m
  induction m with
  | zero => intros; rfl
  | succ m ih =>
    intro x5 g6
    refine (impl_dualBack.b2_eq N K L0 L1 (fun s => xloop (xcode (E65 N) ents impl_dualBack.kp 1 N (cL (cK (cB (cB (cK (cA (cB (cB (cL (cK (cB (cB (cK (cA (cB (cB (cL (cK (cB (cA (cB (cB impl_dualBack.bd)))))))))))))))))))))) 4) impl_dualBack.kp 1 4 m s (impl_dualBack.k2g N L1 (impl_dualBack.k1g N L0 (impl_dualBack.k0 N K g0)))) g0 x1 x3 x5 g6).trans ?_
    simp only [ih]
    kernel_rfl

theorem impl_dualBack.l1_eq {ρ : Type} (N : Nat) (K : AV → Heap → Option ρ) (L0 : St → Option ρ) (g0 : Nat → Int) (x1 : Int) :
    ∀ (m : Nat) (x3 : Int) (g4 : Nat → Int), xloop (xcode (E65 N) ents impl_dualBack.kp 1 N (cL (cK (cB (cB (cK (cA (cB (cB (cL (cK (cB (cA (cB (cB impl_dualBack.bd)))))))))))))) 2) impl_dualBack.kp 1 2 m (impl_dualBack.st1 g0 x1 x3 g4) (impl_dualBack.k1g N L0 (impl_dualBack.k0 N K g0)) = (impl_dualBack.l1 N (fun d0 => K (.agg [⟨.u8, 512, d0⟩]) [⟨false, .ints .u8 512 g0⟩]) g0 x1 (fun o8 => (impl_dualBack.k1g N L0 (impl_dualBack.k0 N K g0)) (.exit 2) (impl_dualBack.sx1_0 g0 x1 o8)) m x3 g4) := by
  intro m
  induction m with
  | zero => intros; rfl
  | succ m ih =>
    intro x3 g4
    refine (impl_dualBack.b1_eq N K L0 (fun s => xloop (xcode (E65 N) ents impl_dualBack.kp 1 N (cL (cK (cB (cB (cK (cA (cB (cB (cL (cK (cB (cA (cB (cB impl_dualBack.bd)))))))))))))) 2) impl_dualBack.kp 1 2 m s (impl_dualBack.k1g N L0 (impl_dualBack.k0 N K g0))) g0 x1 x3 g4).trans ?_
    simp only [ih, impl_dualBack.l2_eq, impl_dualBack.a2_0_eq]
    kernel_rfl

theorem impl_dualBack.l0_eq {ρ : Type} (N : Nat) (K : AV → Heap → Option ρ) (g0 : Nat → Int) :
    ∀ (m : Nat) (x1 : Int) (g2 : Nat → Int), xloop (xcode (E65 N) ents impl_dualBack.kp 1 N (cL (cK (cB (cA (cB (cB impl_dualBack.bd)))))) 0) impl_dualBack.kp 1 0 m (impl_dualBack.st0 g0 x1 g2) (impl_dualBack.k0 N K g0) = (impl_dualBack.l0 N (fun d0 => K (.agg [⟨.u8, 512, d0⟩]) [⟨false, .ints .u8 512 g0⟩]) g0 (fun o9 => (impl_dualBack.k0 N K g0) (.exit 0) (impl_dualBack.sx0_0 g0 o9)) m x1 g2) := by
  intro m
  induction m with
  | zero => intros; rfl
  | succ m ih =>
    intro x1 g2
    refine (impl_dualBack.b0_eq N K (fun s => xloop (xcode (E65 N) ents impl_dualBack.kp 1 N (cL (cK (cB (cA (cB (cB impl_dualBack.bd)))))) 0) impl_dualBack.kp 1 0 m s (impl_dualBack.k0 N K g0)) g0 x1 g2).trans ?_
    simp only [ih, impl_dualBack.l1_eq, impl_dualBack.a1_0_eq]
    kernel_rfl

theorem impl_dualBack.s_eq {ρ : Type} (N : Nat) (K : AV → Heap → Option ρ) (g0 : Nat → Int) :
    xbody (E65 N) ents impl_dualBack.kp N Go.Proofs.Try.f71 impl_dualBack.bd [.sptr [(0, 512)]] [⟨false, .ints .u8 512 g0⟩] K = (impl_dualBack.s N (fun d0 => K (.agg [⟨.u8, 512, d0⟩]) [⟨false, .ints .u8 512 g0⟩]) (fun x1 g2 => xloop (xcode (E65 N) ents impl_dualBack.kp 1 N (cL (cK (cB (cA (cB (cB impl_dualBack.bd)))))) 0) impl_dualBack.kp 1 0 N (impl_dualBack.st0 g0 x1 g2) (impl_dualBack.k0 N K g0))) := by kernel_rfl

theorem impl_dualBack.eq {ρ : Type} (N : Nat) (K : AV → Heap → Option ρ) (g0 : Nat → Int) :
    xbody (E65 N) ents impl_dualBack.kp N Go.Proofs.Try.f71 impl_dualBack.bd [.sptr [(0, 512)]] [⟨false, .ints .u8 512 g0⟩] K = (impl_dualBack N (fun d0 => K (.agg [⟨.u8, 512, d0⟩]) [⟨false, .ints .u8 512 g0⟩]) g0) := by
  refine (impl_dualBack.s_eq N K g0).trans ?_
  simp only [impl_dualBack.l0_eq, impl_dualBack.a0_0_eq]
  kernel_rfl

noncomputable def impl_dualBack.en (N : Nat) (ρ : Type) : List AV → Heap → (AV → Heap → Option ρ) → Option ρ
  | [.sptr [(0, 512)]], [⟨false, .ints .u8 512 g0⟩], K => (impl_dualBack N (fun d0 => K (.agg [⟨.u8, 512, d0⟩]) [⟨false, .ints .u8 512 g0⟩]) g0)
  | _, _, _ => none

theorem impl_dualBack.en_ok (N : Nat) (hE : EnvOk (E65 N) ents) (ρ : Type) (args : List AV) (sh : Heap) (K : AV → Heap → Option ρ) (r : ρ) (h : impl_dualBack.en N ρ args sh K = some r) : ∃ v sh', K v sh' = some r ∧ FnOk (E65 N).P 71 args sh v sh' := by
  unfold impl_dualBack.en at h
  split at h
  · exact fn_ok hE (kp := impl_dualBack.kp) (N := N) Go.Proofs.Try.func71 (c := impl_dualBack.bd) (by kernel_rfl) ((impl_dualBack.eq N _ _).trans h)
  · cases h

noncomputable def E66 (N : Nat) : Env := (E65 N).add 71 (impl_dualBack.en N)

theorem E66_ok (N : Nat) : EnvOk (E66 N) ents := Env.add_ok (E65_ok N) (impl_dualBack.en_ok N (E65_ok N))

noncomputable def impl_DualAlgebra.kp : Keeps := ⟨[], []⟩

noncomputable def impl_DualAlgebra.bd : Code := bodyOf Go.Proofs.Try.f32

noncomputable def impl_DualAlgebra.fin {ρ : Type} (N : Nat) (K : AV → Heap → Option ρ) : XE → St → Option ρ := finK (E66 N) Go.Proofs.Try.f32 [] K

theorem impl_DualAlgebra.eq {ρ : Type} (N : Nat) (K : AV → Heap → Option ρ) (c0 : Nat → Int) (c1 : Nat → Int) :
    xbody (E66 N) ents impl_DualAlgebra.kp N Go.Proofs.Try.f32 impl_DualAlgebra.bd [.agg [⟨.i64, 2, c0⟩, ⟨.u8, 520, c1⟩]] [] K = (impl_DualAlgebra N (fun d0 d1 d2 => K (.tup [.agg [⟨.i64, 2, d0⟩, ⟨.u8, 520, d1⟩], .int .i64 (d2)]) []) c0 c1) := by kernel_rfl

noncomputable def impl_DualAlgebra.en (N : Nat) (ρ : Type) : List AV → Heap → (AV → Heap → Option ρ) → Option ρ
  | [.agg [⟨.i64, 2, c0⟩, ⟨.u8, 520, c1⟩]], [], K => (impl_DualAlgebra N (fun d0 d1 d2 => K (.tup [.agg [⟨.i64, 2, d0⟩, ⟨.u8, 520, d1⟩], .int .i64 (d2)]) []) c0 c1)
  | _, _, _ => none

theorem impl_DualAlgebra.en_ok (N : Nat) (hE : EnvOk (E66 N) ents) (ρ : Type) (args : List AV) (sh : Heap) (K : AV → Heap → Option ρ) (r : ρ) (h : impl_DualAlgebra.en N ρ args sh K = some r) : ∃ v sh', K v sh' = some r ∧ FnOk (E66 N).P 32 args sh v sh' := by
  unfold impl_DualAlgebra.en at h
  split at h
  · exact fn_ok hE (kp := impl_DualAlgebra.kp) (N := N) Go.Proofs.Try.func32 (c := impl_DualAlgebra.bd) (by kernel_rfl) ((impl_DualAlgebra.eq N _ _ _).trans h)
  · cases h

noncomputable def E67 (N : Nat) : Env := (E66 N).add 32 (impl_DualAlgebra.en N)

theorem E67_ok (N : Nat) : EnvOk (E67 N) ents := Env.add_ok (E66_ok N) (impl_DualAlgebra.en_ok N (E66_ok N))

noncomputable def laws_eqTable.kp : Keeps := ⟨[(0, [2, 3, 5], 2)], [(0, [], 2)]⟩

noncomputable def laws_eqTable.bd : Code := bodyOf Go.Proofs.Try.f72

noncomputable def laws_eqTable.fin {ρ : Type} (N : Nat) (K : AV → Heap → Option ρ) : XE → St → Option ρ := finK (E67 N) Go.Proofs.Try.f72 [] K

noncomputable def laws_eqTable.k0 {ρ : Type} (N : Nat) (K : AV → Heap → Option ρ) : XE → St → Option ρ := (blockK laws_eqTable.kp 0 0 (seqK (xcode (E67 N) ents laws_eqTable.kp 0 N (cB (cB laws_eqTable.bd)) 0) (laws_eqTable.fin N K)))

theorem laws_eqTable.k0_mix {ρ : Type} (N : Nat) (K : AV → Heap → Option ρ) : mixK (laws_eqTable.fin N K .ret) (laws_eqTable.k0 N K) = (laws_eqTable.k0 N K) := by
  funext e s; cases e <;> rfl

noncomputable def laws_eqTable.st0 (a0 : Nat → Int) (b1 : Nat → Int) (i2 : Int) : St := ⟨sl 18 [(2, .sptr [(0, 512)]), (3, .sptr [(1, 512)]), (5, .int .i64 (i2))], [⟨true, .ints .u8 512 a0⟩, ⟨true, .ints .u8 512 b1⟩]⟩

noncomputable def laws_eqTable.sx0_0 (a0 : Nat → Int) (b1 : Nat → Int) : St := ⟨sl 18 [], [⟨true, .ints .u8 512 a0⟩, ⟨true, .ints .u8 512 b1⟩]⟩

theorem laws_eqTable.b0_gen {ρ : Type} (N : Nat) (K : AV → Heap → Option ρ) (L0 : St → Option ρ) (kv : XE → St → Option ρ) (a0 : Nat → Int) (b1 : Nat → Int) (i2 : Int) :
    xcode (E67 N) ents laws_eqTable.kp 0 N (cL (cK (cB (cA (cB laws_eqTable.bd))))) 0 (laws_eqTable.st0 a0 b1 i2) (roundK laws_eqTable.kp 0 0 L0 (mixK (laws_eqTable.fin N K .ret) kv)) = (laws_eqTable.b0 N (fun d0 => K (.bool (d0)) []) (fun i2 => L0 (laws_eqTable.st0 a0 b1 i2)) (kv (.exit 0) (laws_eqTable.sx0_0 a0 b1)) a0 b1 i2) := by kernel_rfl

theorem laws_eqTable.b0_eq {ρ : Type} (N : Nat) (K : AV → Heap → Option ρ) (L0 : St → Option ρ) (a0 : Nat → Int) (b1 : Nat → Int) (i2 : Int) :
    xcode (E67 N) ents laws_eqTable.kp 0 N (cL (cK (cB (cA (cB laws_eqTable.bd))))) 0 (laws_eqTable.st0 a0 b1 i2) (roundK laws_eqTable.kp 0 0 L0 (laws_eqTable.k0 N K)) = (laws_eqTable.b0 N (fun d0 => K (.bool (d0)) []) (fun i2 => L0 (laws_eqTable.st0 a0 b1 i2)) ((laws_eqTable.k0 N K) (.exit 0) (laws_eqTable.sx0_0 a0 b1)) a0 b1 i2) := by
  have h := laws_eqTable.b0_gen N K L0 (laws_eqTable.k0 N K) a0 b1 i2
  rw [laws_eqTable.k0_mix] at h
  exact h

theorem laws_eqTable.a0_0_eq {ρ : Type} (N : Nat) (K : AV → Heap → Option ρ) (a0 : Nat → Int) (b1 : Nat → Int) :
    (laws_eqTable.k0 N K) (.exit 0) (laws_eqTable.sx0_0 a0 b1) = (laws_eqTable.a0_0 N (fun d0 => K (.bool (d0)) [])) := by kernel_rfl

theorem laws_eqTable.l0_eq {ρ : Type} (N : Nat) (K : AV → Heap → Option ρ) (a0 : Nat → Int) (b1 : Nat → Int) :
    ∀ (m : Nat) (i2 : Int), xloop (xcode (E67 N) ents laws_eqTable.kp 0 N (cL (cK (cB (cA (cB laws_eqTable.bd))))) 0) laws_eqTable.kp 0 0 m (laws_eqTable.st0 a0 b1 i2) (laws_eqTable.k0 N K) = (laws_eqTable.l0 N (fun d0 => K (.bool (d0)) []) a0 b1 ((laws_eqTable.k0 N K) (.exit 0) (laws_eqTable.sx0_0 a0 b1)) m i2) := by
  intro m
  induction m with
  | zero => intros; rfl
  | succ m ih =>
    intro i2
    refine (laws_eqTable.b0_eq N K (fun s => xloop (xcode (E67 N) ents laws_eqTable.kp 0 N (cL (cK (cB (cA (cB laws_eqTable.bd))))) 0) laws_eqTable.kp 0 0 m s (laws_eqTable.k0 N K)) a0 b1 i2).trans ?_
    simp only [ih]
    kernel_rfl

theorem laws_eqTable.s_eq {ρ : Type} (N : Nat) (K : AV → Heap → Option ρ) (a0 : Nat → Int) (b1 : Nat → Int) :
    xbody (E67 N) ents laws_eqTable.kp N Go.Proofs.Try.f72 laws_eqTable.bd [.agg [⟨.u8, 512, a0⟩], .agg [⟨.u8, 512, b1⟩]] [] K = (laws_eqTable.s N (fun d0 => K (.bool (d0)) []) (fun i2 => xloop (xcode (E67 N) ents laws_eqTable.kp 0 N (cL (cK (cB (cA (cB laws_eqTable.bd))))) 0) laws_eqTable.kp 0 0 N (laws_eqTable.st0 a0 b1 i2) (laws_eqTable.k0 N K))) := by kernel_rfl

theorem laws_eqTable.eq {ρ : Type} (N : Nat) (K : AV → Heap → Option ρ) (a0 : Nat → Int) (b1 : Nat → Int) :
    xbody (E67 N) ents laws_eqTable.kp N Go.Proofs.Try.f72 laws_eqTable.bd [.agg [⟨.u8, 512, a0⟩], .agg [⟨.u8, 512, b1⟩]] [] K = (laws_eqTable N (fun d0 => K (.bool (d0)) []) a0 b1) := by
  refine (laws_eqTable.s_eq N K a0 b1).trans ?_
  simp only [laws_eqTable.l0_eq, laws_eqTable.a0_0_eq]
  kernel_rfl

noncomputable def laws_eqTable.en (N : Nat) (ρ : Type) : List AV → Heap → (AV → Heap → Option ρ) → Option ρ
  | [.agg [⟨.u8, 512, a0⟩], .agg [⟨.u8, 512, b1⟩]], [], K => (laws_eqTable N (fun d0 => K (.bool (d0)) []) a0 b1)
  | _, _, _ => none

theorem laws_eqTable.en_ok (N : Nat) (hE : EnvOk (E67 N) ents) (ρ : Type) (args : List AV) (sh : Heap) (K : AV → Heap → Option ρ) (r : ρ) (h : laws_eqTable.en N ρ args sh K = some r) : ∃ v sh', K v sh' = some r ∧ FnOk (E67 N).P 72 args sh v sh' := by
  unfold laws_eqTable.en at h
  split at h
  · exact fn_ok hE (kp := laws_eqTable.kp) (N := N) Go.Proofs.Try.func72 (c := laws_eqTable.bd) (by kernel_rfl) ((laws_eqTable.eq N _ _ _).trans h)
  · cases h

noncomputable def E68 (N : Nat) : Env := (E67 N).add 72 (laws_eqTable.en N)

theorem E68_ok (N : Nat) : EnvOk (E68 N) ents := Env.add_ok (E67_ok N) (laws_eqTable.en_ok N (E67_ok N))

noncomputable def laws_eqAlgebra.kp : Keeps := ⟨[], []⟩

noncomputable def laws_eqAlgebra.bd : Code := bodyOf Go.Proofs.Try.f33

noncomputable def laws_eqAlgebra.fin {ρ : Type} (N : Nat) (K : AV → Heap → Option ρ) : XE → St → Option ρ := finK (E68 N) Go.Proofs.Try.f33 [] K

theorem laws_eqAlgebra.eq {ρ : Type} (N : Nat) (K : AV → Heap → Option ρ) (a0 : Nat → Int) (a1 : Nat → Int) (b2 : Nat → Int) (b3 : Nat → Int) :
    xbody (E68 N) ents laws_eqAlgebra.kp N Go.Proofs.Try.f33 laws_eqAlgebra.bd [.agg [⟨.i64, 2, a0⟩, ⟨.u8, 520, a1⟩], .agg [⟨.i64, 2, b2⟩, ⟨.u8, 520, b3⟩]] [] K = (laws_eqAlgebra N (fun d0 => K (.bool (d0)) []) a0 a1 b2 b3) := by kernel_rfl

noncomputable def laws_eqAlgebra.en (N : Nat) (ρ : Type) : List AV → Heap → (AV → Heap → Option ρ) → Option ρ
  | [.agg [⟨.i64, 2, a0⟩, ⟨.u8, 520, a1⟩], .agg [⟨.i64, 2, b2⟩, ⟨.u8, 520, b3⟩]], [], K => (laws_eqAlgebra N (fun d0 => K (.bool (d0)) []) a0 a1 b2 b3)
  | _, _, _ => none

theorem laws_eqAlgebra.en_ok (N : Nat) (hE : EnvOk (E68 N) ents) (ρ : Type) (args : List AV) (sh : Heap) (K : AV → Heap → Option ρ) (r : ρ) (h : laws_eqAlgebra.en N ρ args sh K = some r) : ∃ v sh', K v sh' = some r ∧ FnOk (E68 N).P 33 args sh v sh' := by
  unfold laws_eqAlgebra.en at h
  split at h
  · exact fn_ok hE (kp := laws_eqAlgebra.kp) (N := N) Go.Proofs.Try.func33 (c := laws_eqAlgebra.bd) (by kernel_rfl) ((laws_eqAlgebra.eq N _ _ _ _ _).trans h)
  · cases h

noncomputable def E69 (N : Nat) : Env := (E68 N).add 33 (laws_eqAlgebra.en N)

theorem E69_ok (N : Nat) : EnvOk (E69 N) ents := Env.add_ok (E68_ok N) (laws_eqAlgebra.en_ok N (E68_ok N))

noncomputable def laws_FnExactDualAlgebra.kp : Keeps := ⟨[], []⟩

noncomputable def laws_FnExactDualAlgebra.bd : Code := bodyOf Go.Proofs.Try.f8

noncomputable def laws_FnExactDualAlgebra.fin {ρ : Type} (N : Nat) (K : AV → Heap → Option ρ) : XE → St → Option ρ := finK (E69 N) Go.Proofs.Try.f8 [] K

theorem laws_FnExactDualAlgebra.eq {ρ : Type} (N : Nat) (K : AV → Heap → Option ρ) (aC0 : Nat → Int) (aC1 : Nat → Int) :
    xbody (E69 N) ents laws_FnExactDualAlgebra.kp N Go.Proofs.Try.f8 laws_FnExactDualAlgebra.bd [.agg [⟨.i64, 2, aC0⟩, ⟨.u8, 520, aC1⟩]] [] K = (laws_FnExactDualAlgebra N (fun d0 => K (.bool (d0)) []) aC0 aC1) := by kernel_rfl

noncomputable def laws_FnExactDualAlgebra.en (N : Nat) (ρ : Type) : List AV → Heap → (AV → Heap → Option ρ) → Option ρ
  | [.agg [⟨.i64, 2, aC0⟩, ⟨.u8, 520, aC1⟩]], [], K => (laws_FnExactDualAlgebra N (fun d0 => K (.bool (d0)) []) aC0 aC1)
  | _, _, _ => none

theorem laws_FnExactDualAlgebra.en_ok (N : Nat) (hE : EnvOk (E69 N) ents) (ρ : Type) (args : List AV) (sh : Heap) (K : AV → Heap → Option ρ) (r : ρ) (h : laws_FnExactDualAlgebra.en N ρ args sh K = some r) : ∃ v sh', K v sh' = some r ∧ FnOk (E69 N).P 8 args sh v sh' := by
  unfold laws_FnExactDualAlgebra.en at h
  split at h
  · exact fn_ok hE (kp := laws_FnExactDualAlgebra.kp) (N := N) Go.Proofs.Try.func8 (c := laws_FnExactDualAlgebra.bd) (by kernel_rfl) ((laws_FnExactDualAlgebra.eq N _ _ _).trans h)
  · cases h

noncomputable def E70 (N : Nat) : Env := (E69 N).add 8 (laws_FnExactDualAlgebra.en N)

theorem E70_ok (N : Nat) : EnvOk (E70 N) ents := Env.add_ok (E69_ok N) (laws_FnExactDualAlgebra.en_ok N (E69_ok N))

noncomputable def spec_l02Outer.kp : Keeps := ⟨[(0, [0, 4, 5, 6, 7, 8], 4)], [(0, [6, 7], 4)]⟩

noncomputable def spec_l02Outer.bd : Code := bodyOf Go.Proofs.Try.f105

noncomputable def spec_l02Outer.fin {ρ : Type} (N : Nat) (K : AV → Heap → Option ρ) : XE → St → Option ρ := finK (E70 N) Go.Proofs.Try.f105 [] K

noncomputable def spec_l02Outer.k0 {ρ : Type} (N : Nat) (K : AV → Heap → Option ρ) : XE → St → Option ρ := (blockK spec_l02Outer.kp 0 0 (seqK (xcode (E70 N) ents spec_l02Outer.kp 0 N (cB (cB (cB spec_l02Outer.bd))) 0) (spec_l02Outer.fin N K)))

theorem spec_l02Outer.k0_mix {ρ : Type} (N : Nat) (K : AV → Heap → Option ρ) : mixK (spec_l02Outer.fin N K .ret) (spec_l02Outer.k0 N K) = (spec_l02Outer.k0 N K) := by
  funext e s; cases e <;> rfl

noncomputable def spec_l02Outer.st0 (p0 : Int) (v1 : Nat → Int) (w2 : Nat → Int) (j3 : Int) (g4 : Nat → Int) : St := ⟨sl 25 [(0, .int .i64 (p0)), (4, .sptr [(0, 8)]), (5, .sptr [(1, 8)]), (6, .sptr [(2, 64)]), (7, .sptr [(3, 64)]), (8, .int .i64 (j3))], [⟨true, .ints .u8 8 v1⟩, ⟨true, .ints .u8 8 w2⟩, ⟨true, .ints .u8 64 (fun _ => 0)⟩, ⟨true, .ints .u8 64 g4⟩]⟩

noncomputable def spec_l02Outer.sx0_0 (v1 : Nat → Int) (w2 : Nat → Int) (o6 : Nat → Int) : St := ⟨sl 25 [(6, .sptr [(2, 64)]), (7, .sptr [(3, 64)])], [⟨true, .ints .u8 8 v1⟩, ⟨true, .ints .u8 8 w2⟩, ⟨true, .ints .u8 64 (fun _ => 0)⟩, ⟨true, .ints .u8 64 o6⟩]⟩

theorem spec_l02Outer.b0_gen {ρ : Type} (N : Nat) (K : AV → Heap → Option ρ) (L0 : St → Option ρ) (kv : XE → St → Option ρ) (p0 : Int) (v1 : Nat → Int) (w2 : Nat → Int) (j3 : Int) (g4 : Nat → Int) :
    xcode (E70 N) ents spec_l02Outer.kp 0 N (cL (cK (cB (cA (cB (cB spec_l02Outer.bd)))))) 0 (spec_l02Outer.st0 p0 v1 w2 j3 g4) (roundK spec_l02Outer.kp 0 0 L0 (mixK (spec_l02Outer.fin N K .ret) kv)) = (spec_l02Outer.b0 N (fun d0 => K (.agg [⟨.u8, 64, d0⟩]) []) (fun j3 g4 => L0 (spec_l02Outer.st0 p0 v1 w2 j3 g4)) (fun o6 => kv (.exit 0) (spec_l02Outer.sx0_0 v1 w2 o6)) p0 v1 w2 j3 g4) := by kernel_rfl

theorem spec_l02Outer.b0_eq {ρ : Type} (N : Nat) (K : AV → Heap → Option ρ) (L0 : St → Option ρ) (p0 : Int) (v1 : Nat → Int) (w2 : Nat → Int) (j3 : Int) (g4 : Nat → Int) :
    xcode (E70 N) ents spec_l02Outer.kp 0 N (cL (cK (cB (cA (cB (cB spec_l02Outer.bd)))))) 0 (spec_l02Outer.st0 p0 v1 w2 j3 g4) (roundK spec_l02Outer.kp 0 0 L0 (spec_l02Outer.k0 N K)) = (spec_l02Outer.b0 N (fun d0 => K (.agg [⟨.u8, 64, d0⟩]) []) (fun j3 g4 => L0 (spec_l02Outer.st0 p0 v1 w2 j3 g4)) (fun o6 => (spec_l02Outer.k0 N K) (.exit 0) (spec_l02Outer.sx0_0 v1 w2 o6)) p0 v1 w2 j3 g4) := by
  have h := spec_l02Outer.b0_gen N K L0 (spec_l02Outer.k0 N K) p0 v1 w2 j3 g4
  rw [spec_l02Outer.k0_mix] at h
  exact h

theorem spec_l02Outer.a0_0_eq {ρ : Type} (N : Nat) (K : AV → Heap → Option ρ) (v1 : Nat → Int) (w2 : Nat → Int) (o6 : Nat → Int) :
    (spec_l02Outer.k0 N K) (.exit 0) (spec_l02Outer.sx0_0 v1 w2 o6) = (spec_l02Outer.a0_0 N (fun d0 => K (.agg [⟨.u8, 64, d0⟩]) []) o6) := by kernel_rfl

theorem spec_l02Outer.l0_eq {ρ : Type} (N : Nat) (K : AV → Heap → Option ρ) (p0 : Int) (v1 : Nat → Int) (w2 : Nat → Int) :
    ∀ (m : Nat) (j3 : Int) (g4 : Nat → Int), xloop (xcode (E70 N) ents spec_l02Outer.kp 0 N (cL (cK (cB (cA (cB (cB spec_l02Outer.bd)))))) 0) spec_l02Outer.kp 0 0 m (spec_l02Outer.st0 p0 v1 w2 j3 g4) (spec_l02Outer.k0 N K) = (spec_l02Outer.l0 N (fun d0 => K (.agg [⟨.u8, 64, d0⟩]) []) p0 v1 w2 (fun o6 => (spec_l02Outer.k0 N K) (.exit 0) (spec_l02Outer.sx0_0 v1 w2 o6)) m j3 g4) := by
  intro m
  induction m with
  | zero => intros; rfl
  | succ m ih =>
    intro j3 g4
    refine (spec_l02Outer.b0_eq N K (fun s => xloop (xcode (E70 N) ents spec_l02Outer.kp 0 N (cL (cK (cB (cA (cB (cB spec_l02Outer.bd)))))) 0) spec_l02Outer.kp 0 0 m s (spec_l02Outer.k0 N K)) p0 v1 w2 j3 g4).trans ?_
    simp only [ih]
    kernel_rfl

theorem spec_l02Outer.s_eq {ρ : Type} (N : Nat) (K : AV → Heap → Option ρ) (p0 : Int) (v1 : Nat → Int) (w2 : Nat → Int) :
    xbody (E70 N) ents spec_l02Outer.kp N Go.Proofs.Try.f105 spec_l02Outer.bd [.int .i64 (p0), .agg [⟨.u8, 8, v1⟩], .agg [⟨.u8, 8, w2⟩]] [] K = (spec_l02Outer.s N (fun d0 => K (.agg [⟨.u8, 64, d0⟩]) []) (fun j3 g4 => xloop (xcode (E70 N) ents spec_l02Outer.kp 0 N (cL (cK (cB (cA (cB (cB spec_l02Outer.bd)))))) 0) spec_l02Outer.kp 0 0 N (spec_l02Outer.st0 p0 v1 w2 j3 g4) (spec_l02Outer.k0 N K))) := by kernel_rfl

theorem spec_l02Outer.eq {ρ : Type} (N : Nat) (K : AV → Heap → Option ρ) (p0 : Int) (v1 : Nat → Int) (w2 : Nat → Int) :
    xbody (E70 N) ents spec_l02Outer.kp N Go.Proofs.Try.f105 spec_l02Outer.bd [.int .i64 (p0), .agg [⟨.u8, 8, v1⟩], .agg [⟨.u8, 8, w2⟩]] [] K = (spec_l02Outer N (fun d0 => K (.agg [⟨.u8, 64, d0⟩]) []) p0 v1 w2) := by
  refine (spec_l02Outer.s_eq N K p0 v1 w2).trans ?_
  simp only [spec_l02Outer.l0_eq, spec_l02Outer.a0_0_eq]
  kernel_rfl

noncomputable def spec_l02Outer.en (N : Nat) (ρ : Type) : List AV → Heap → (AV → Heap → Option ρ) → Option ρ
  | [.int .i64 (p0), .agg [⟨.u8, 8, v1⟩], .agg [⟨.u8, 8, w2⟩]], [], K => (spec_l02Outer N (fun d0 => K (.agg [⟨.u8, 64, d0⟩]) []) p0 v1 w2)
  | _, _, _ => none

theorem spec_l02Outer.en_ok (N : Nat) (hE : EnvOk (E70 N) ents) (ρ : Type) (args : List AV) (sh : Heap) (K : AV → Heap → Option ρ) (r : ρ) (h : spec_l02Outer.en N ρ args sh K = some r) : ∃ v sh', K v sh' = some r ∧ FnOk (E70 N).P 105 args sh v sh' := by
  unfold spec_l02Outer.en at h
  split at h
  · exact fn_ok hE (kp := spec_l02Outer.kp) (N := N) Go.Proofs.Try.func105 (c := spec_l02Outer.bd) (by kernel_rfl) ((spec_l02Outer.eq N _ _ _ _).trans h)
  · cases h

noncomputable def E71 (N : Nat) : Env := (E70 N).add 105 (spec_l02Outer.en N)

theorem E71_ok (N : Nat) : EnvOk (E71 N) ents := Env.add_ok (E70_ok N) (spec_l02Outer.en_ok N (E70_ok N))

noncomputable def spec_l02Group.kp : Keeps := ⟨[], []⟩

noncomputable def spec_l02Group.bd : Code := bodyOf Go.Proofs.Try.f73

noncomputable def spec_l02Group.fin {ρ : Type} (N : Nat) (K : AV → Heap → Option ρ) : XE → St → Option ρ := finK (E71 N) Go.Proofs.Try.f73 [] K

theorem spec_l02Group.eq {ρ : Type} (N : Nat) (K : AV → Heap → Option ρ) (c0 : Nat → Int) (c1 : Nat → Int) (v2 : Nat → Int) :
    xbody (E71 N) ents spec_l02Group.kp N Go.Proofs.Try.f73 spec_l02Group.bd [.agg [⟨.i64, 2, c0⟩, ⟨.u8, 520, c1⟩], .agg [⟨.u8, 8, v2⟩]] [] K = (spec_l02Group N (fun d0 => K (.bool (d0)) []) c0 c1 v2) := by kernel_rfl

noncomputable def spec_l02Group.en (N : Nat) (ρ : Type) : List AV → Heap → (AV → Heap → Option ρ) → Option ρ
  | [.agg [⟨.i64, 2, c0⟩, ⟨.u8, 520, c1⟩], .agg [⟨.u8, 8, v2⟩]], [], K => (spec_l02Group N (fun d0 => K (.bool (d0)) []) c0 c1 v2)
  | _, _, _ => none

theorem spec_l02Group.en_ok (N : Nat) (hE : EnvOk (E71 N) ents) (ρ : Type) (args : List AV) (sh : Heap) (K : AV → Heap → Option ρ) (r : ρ) (h : spec_l02Group.en N ρ args sh K = some r) : ∃ v sh', K v sh' = some r ∧ FnOk (E71 N).P 73 args sh v sh' := by
  unfold spec_l02Group.en at h
  split at h
  · exact fn_ok hE (kp := spec_l02Group.kp) (N := N) Go.Proofs.Try.func73 (c := spec_l02Group.bd) (by kernel_rfl) ((spec_l02Group.eq N _ _ _ _).trans h)
  · cases h

noncomputable def E72 (N : Nat) : Env := (E71 N).add 73 (spec_l02Group.en N)

theorem E72_ok (N : Nat) : EnvOk (E72 N) ents := Env.add_ok (E71_ok N) (spec_l02Group.en_ok N (E71_ok N))

noncomputable def spec_IsGroupLike.kp : Keeps := ⟨[], []⟩

noncomputable def spec_IsGroupLike.bd : Code := bodyOf Go.Proofs.Try.f34

noncomputable def spec_IsGroupLike.fin {ρ : Type} (N : Nat) (K : AV → Heap → Option ρ) : XE → St → Option ρ := finK (E72 N) Go.Proofs.Try.f34 [] K

theorem spec_IsGroupLike.eq {ρ : Type} (N : Nat) (K : AV → Heap → Option ρ) (c0 : Nat → Int) (c1 : Nat → Int) (v2 : Nat → Int) :
    xbody (E72 N) ents spec_IsGroupLike.kp N Go.Proofs.Try.f34 spec_IsGroupLike.bd [.agg [⟨.i64, 2, c0⟩, ⟨.u8, 520, c1⟩], .agg [⟨.u8, 8, v2⟩]] [] K = (spec_IsGroupLike N (fun d0 d1 => K (.tup [.bool (d0), .int .i64 (d1)]) []) c0 c1 v2) := by kernel_rfl

noncomputable def spec_IsGroupLike.en (N : Nat) (ρ : Type) : List AV → Heap → (AV → Heap → Option ρ) → Option ρ
  | [.agg [⟨.i64, 2, c0⟩, ⟨.u8, 520, c1⟩], .agg [⟨.u8, 8, v2⟩]], [], K => (spec_IsGroupLike N (fun d0 d1 => K (.tup [.bool (d0), .int .i64 (d1)]) []) c0 c1 v2)
  | _, _, _ => none

theorem spec_IsGroupLike.en_ok (N : Nat) (hE : EnvOk (E72 N) ents) (ρ : Type) (args : List AV) (sh : Heap) (K : AV → Heap → Option ρ) (r : ρ) (h : spec_IsGroupLike.en N ρ args sh K = some r) : ∃ v sh', K v sh' = some r ∧ FnOk (E72 N).P 34 args sh v sh' := by
  unfold spec_IsGroupLike.en at h
  split at h
  · exact fn_ok hE (kp := spec_IsGroupLike.kp) (N := N) Go.Proofs.Try.func34 (c := spec_IsGroupLike.bd) (by kernel_rfl) ((spec_IsGroupLike.eq N _ _ _ _).trans h)
  · cases h

noncomputable def E73 (N : Nat) : Env := (E72 N).add 34 (spec_IsGroupLike.en N)

theorem E73_ok (N : Nat) : EnvOk (E73 N) ents := Env.add_ok (E72_ok N) (spec_IsGroupLike.en_ok N (E72_ok N))

noncomputable def impl_field_times.kp : Keeps := ⟨[], []⟩

noncomputable def impl_field_times.bd : Code := bodyOf Go.Proofs.Try.f81

noncomputable def impl_field_times.fin {ρ : Type} (N : Nat) (K : AV → Heap → Option ρ) : XE → St → Option ρ := finK (E73 N) Go.Proofs.Try.f81 [] K

theorem impl_field_times.eq {ρ : Type} (N : Nat) (K : AV → Heap → Option ρ) (f0 : Nat → Int) (k1 : Int) (w2 : Nat → Int) :
    xbody (E73 N) ents impl_field_times.kp N Go.Proofs.Try.f81 impl_field_times.bd [.agg [⟨.i64, 2, f0⟩], .int .i64 (k1), .agg [⟨.u8, 8, w2⟩]] [] K = (impl_field_times N (fun d0 => K (.agg [⟨.u8, 8, d0⟩]) []) f0 k1 w2) := by kernel_rfl

noncomputable def impl_field_times.en (N : Nat) (ρ : Type) : List AV → Heap → (AV → Heap → Option ρ) → Option ρ
  | [.agg [⟨.i64, 2, f0⟩], .int .i64 (k1), .agg [⟨.u8, 8, w2⟩]], [], K => (impl_field_times N (fun d0 => K (.agg [⟨.u8, 8, d0⟩]) []) f0 k1 w2)
  | _, _, _ => none

theorem impl_field_times.en_ok (N : Nat) (hE : EnvOk (E73 N) ents) (ρ : Type) (args : List AV) (sh : Heap) (K : AV → Heap → Option ρ) (r : ρ) (h : impl_field_times.en N ρ args sh K = some r) : ∃ v sh', K v sh' = some r ∧ FnOk (E73 N).P 81 args sh v sh' := by
  unfold impl_field_times.en at h
  split at h
  · exact fn_ok hE (kp := impl_field_times.kp) (N := N) Go.Proofs.Try.func81 (c := impl_field_times.bd) (by kernel_rfl) ((impl_field_times.eq N _ _ _ _).trans h)
  · cases h

noncomputable def E74 (N : Nat) : Env := (E73 N).add 81 (impl_field_times.en N)

theorem E74_ok (N : Nat) : EnvOk (E74 N) ents := Env.add_ok (E73_ok N) (impl_field_times.en_ok N (E73_ok N))

noncomputable def impl_field_pair.kp : Keeps := ⟨[(0, [3, 5, 6, 7, 11, 12], 5)], [(0, [6, 7], 5)]⟩

noncomputable def impl_field_pair.bd : Code := bodyOf Go.Proofs.Try.f106

noncomputable def impl_field_pair.fin {ρ : Type} (N : Nat) (K : AV → Heap → Option ρ) : XE → St → Option ρ := finK (E74 N) Go.Proofs.Try.f106 [] K

noncomputable def impl_field_pair.k0 {ρ : Type} (N : Nat) (K : AV → Heap → Option ρ) : XE → St → Option ρ := (blockK impl_field_pair.kp 0 0 (seqK (xcode (E74 N) ents impl_field_pair.kp 0 N (cB (cB (cB impl_field_pair.bd))) 0) (impl_field_pair.fin N K)))

theorem impl_field_pair.k0_mix {ρ : Type} (N : Nat) (K : AV → Heap → Option ρ) : mixK (impl_field_pair.fin N K .ret) (impl_field_pair.k0 N K) = (impl_field_pair.k0 N K) := by
  funext e s; cases e <;> rfl

noncomputable def impl_field_pair.st0 (f0 : Nat → Int) (v1 : Nat → Int) (w2 : Nat → Int) (x3 : Int) (g4 : Nat → Int) : St := ⟨sl 25 [(3, .sptr [(0, 2)]), (5, .sptr [(2, 8)]), (6, .sptr [(3, 64)]), (7, .sptr [(4, 64)]), (11, .agg [⟨.u8, 8, v1⟩]), (12, .int .i64 (x3))], [⟨true, .ints .i64 2 f0⟩, ⟨true, .ints .u8 8 v1⟩, ⟨true, .ints .u8 8 w2⟩, ⟨true, .ints .u8 64 (fun _ => 0)⟩, ⟨true, .ints .u8 64 g4⟩]⟩

noncomputable def impl_field_pair.sx0_0 (f0 : Nat → Int) (v1 : Nat → Int) (w2 : Nat → Int) (o6 : Nat → Int) : St := ⟨sl 25 [(6, .sptr [(3, 64)]), (7, .sptr [(4, 64)])], [⟨true, .ints .i64 2 f0⟩, ⟨true, .ints .u8 8 v1⟩, ⟨true, .ints .u8 8 w2⟩, ⟨true, .ints .u8 64 (fun _ => 0)⟩, ⟨true, .ints .u8 64 o6⟩]⟩

theorem impl_field_pair.b0_gen {ρ : Type} (N : Nat) (K : AV → Heap → Option ρ) (L0 : St → Option ρ) (kv : XE → St → Option ρ) (f0 : Nat → Int) (v1 : Nat → Int) (w2 : Nat → Int) (x3 : Int) (g4 : Nat → Int) :
    xcode (E74 N) ents impl_field_pair.kp 0 N (cL (cK (cB (cA (cB (cB impl_field_pair.bd)))))) 0 (impl_field_pair.st0 f0 v1 w2 x3 g4) (roundK impl_field_pair.kp 0 0 L0 (mixK (impl_field_pair.fin N K .ret) kv)) = (impl_field_pair.b0 N (fun d0 => K (.agg [⟨.u8, 64, d0⟩]) []) (fun x3 g4 => L0 (impl_field_pair.st0 f0 v1 w2 x3 g4)) (fun o6 => kv (.exit 0) (impl_field_pair.sx0_0 f0 v1 w2 o6)) f0 v1 w2 x3 g4) := by kernel_rfl

theorem impl_field_pair.b0_eq {ρ : Type} (N : Nat) (K : AV → Heap → Option ρ) (L0 : St → Option ρ) (f0 : Nat → Int) (v1 : Nat → Int) (w2 : Nat → Int) (x3 : Int) (g4 : Nat → Int) :
    xcode (E74 N) ents impl_field_pair.kp 0 N (cL (cK (cB (cA (cB (cB impl_field_pair.bd)))))) 0 (impl_field_pair.st0 f0 v1 w2 x3 g4) (roundK impl_field_pair.kp 0 0 L0 (impl_field_pair.k0 N K)) = (impl_field_pair.b0 N (fun d0 => K (.agg [⟨.u8, 64, d0⟩]) []) (fun x3 g4 => L0 (impl_field_pair.st0 f0 v1 w2 x3 g4)) (fun o6 => (impl_field_pair.k0 N K) (.exit 0) (impl_field_pair.sx0_0 f0 v1 w2 o6)) f0 v1 w2 x3 g4) := by
  have h := impl_field_pair.b0_gen N K L0 (impl_field_pair.k0 N K) f0 v1 w2 x3 g4
  rw [impl_field_pair.k0_mix] at h
  exact h

theorem impl_field_pair.a0_0_eq {ρ : Type} (N : Nat) (K : AV → Heap → Option ρ) (f0 : Nat → Int) (v1 : Nat → Int) (w2 : Nat → Int) (o6 : Nat → Int) :
    (impl_field_pair.k0 N K) (.exit 0) (impl_field_pair.sx0_0 f0 v1 w2 o6) = (impl_field_pair.a0_0 N (fun d0 => K (.agg [⟨.u8, 64, d0⟩]) []) o6) := by kernel_rfl

theorem impl_field_pair.l0_eq {ρ : Type} (N : Nat) (K : AV → Heap → Option ρ) (f0 : Nat → Int) (v1 : Nat → Int) (w2 : Nat → Int) :
    ∀ (m : Nat) (x3 : Int) (g4 : Nat → Int), xloop (xcode (E74 N) ents impl_field_pair.kp 0 N (cL (cK (cB (cA (cB (cB impl_field_pair.bd)))))) 0) impl_field_pair.kp 0 0 m (impl_field_pair.st0 f0 v1 w2 x3 g4) (impl_field_pair.k0 N K) = (impl_field_pair.l0 N (fun d0 => K (.agg [⟨.u8, 64, d0⟩]) []) f0 v1 w2 (fun o6 => (impl_field_pair.k0 N K) (.exit 0) (impl_field_pair.sx0_0 f0 v1 w2 o6)) m x3 g4) := by
  intro m
  induction m with
  | zero => intros; rfl
  | succ m ih =>
    intro x3 g4
    refine (impl_field_pair.b0_eq N K (fun s => xloop (xcode (E74 N) ents impl_field_pair.kp 0 N (cL (cK (cB (cA (cB (cB impl_field_pair.bd)))))) 0) impl_field_pair.kp 0 0 m s (impl_field_pair.k0 N K)) f0 v1 w2 x3 g4).trans ?_
    simp only [ih]
    kernel_rfl

theorem impl_field_pair.s_eq {ρ : Type} (N : Nat) (K : AV → Heap → Option ρ) (f0 : Nat → Int) (v1 : Nat → Int) (w2 : Nat → Int) :
    xbody (E74 N) ents impl_field_pair.kp N Go.Proofs.Try.f106 impl_field_pair.bd [.agg [⟨.i64, 2, f0⟩], .agg [⟨.u8, 8, v1⟩], .agg [⟨.u8, 8, w2⟩]] [] K = (impl_field_pair.s N (fun d0 => K (.agg [⟨.u8, 64, d0⟩]) []) (fun x3 g4 => xloop (xcode (E74 N) ents impl_field_pair.kp 0 N (cL (cK (cB (cA (cB (cB impl_field_pair.bd)))))) 0) impl_field_pair.kp 0 0 N (impl_field_pair.st0 f0 v1 w2 x3 g4) (impl_field_pair.k0 N K))) := by kernel_rfl

theorem impl_field_pair.eq {ρ : Type} (N : Nat) (K : AV → Heap → Option ρ) (f0 : Nat → Int) (v1 : Nat → Int) (w2 : Nat → Int) :
    xbody (E74 N) ents impl_field_pair.kp N Go.Proofs.Try.f106 impl_field_pair.bd [.agg [⟨.i64, 2, f0⟩], .agg [⟨.u8, 8, v1⟩], .agg [⟨.u8, 8, w2⟩]] [] K = (impl_field_pair N (fun d0 => K (.agg [⟨.u8, 64, d0⟩]) []) f0 v1 w2) := by
  refine (impl_field_pair.s_eq N K f0 v1 w2).trans ?_
  simp only [impl_field_pair.l0_eq, impl_field_pair.a0_0_eq]
  kernel_rfl

noncomputable def impl_field_pair.en (N : Nat) (ρ : Type) : List AV → Heap → (AV → Heap → Option ρ) → Option ρ
  | [.agg [⟨.i64, 2, f0⟩], .agg [⟨.u8, 8, v1⟩], .agg [⟨.u8, 8, w2⟩]], [], K => (impl_field_pair N (fun d0 => K (.agg [⟨.u8, 64, d0⟩]) []) f0 v1 w2)
  | _, _, _ => none

theorem impl_field_pair.en_ok (N : Nat) (hE : EnvOk (E74 N) ents) (ρ : Type) (args : List AV) (sh : Heap) (K : AV → Heap → Option ρ) (r : ρ) (h : impl_field_pair.en N ρ args sh K = some r) : ∃ v sh', K v sh' = some r ∧ FnOk (E74 N).P 106 args sh v sh' := by
  unfold impl_field_pair.en at h
  split at h
  · exact fn_ok hE (kp := impl_field_pair.kp) (N := N) Go.Proofs.Try.func106 (c := impl_field_pair.bd) (by kernel_rfl) ((impl_field_pair.eq N _ _ _ _).trans h)
  · cases h

noncomputable def E75 (N : Nat) : Env := (E74 N).add 106 (impl_field_pair.en N)

theorem E75_ok (N : Nat) : EnvOk (E75 N) ents := Env.add_ok (E74_ok N) (impl_field_pair.en_ok N (E74_ok N))

noncomputable def impl_Coalgebra_isGroupLike.kp : Keeps := ⟨[], []⟩

noncomputable def impl_Coalgebra_isGroupLike.bd : Code := bodyOf Go.Proofs.Try.f74

noncomputable def impl_Coalgebra_isGroupLike.fin {ρ : Type} (N : Nat) (K : AV → Heap → Option ρ) (g1 : Nat → Int) (g2 : Nat → Int) : XE → St → Option ρ := finK (E75 N) Go.Proofs.Try.f74 [⟨false, .ints .i64 2 g1⟩, ⟨false, .ints .u8 520 g2⟩] K

theorem impl_Coalgebra_isGroupLike.eq {ρ : Type} (N : Nat) (K : AV → Heap → Option ρ) (v0 : Nat → Int) (g1 : Nat → Int) (g2 : Nat → Int) :
    xbody (E75 N) ents impl_Coalgebra_isGroupLike.kp N Go.Proofs.Try.f74 impl_Coalgebra_isGroupLike.bd [.sptr [(0, 2), (1, 520)], .agg [⟨.u8, 8, v0⟩]] [⟨false, .ints .i64 2 g1⟩, ⟨false, .ints .u8 520 g2⟩] K = (impl_Coalgebra_isGroupLike N (fun d0 => K (.bool (d0)) [⟨false, .ints .i64 2 g1⟩, ⟨false, .ints .u8 520 g2⟩]) v0 g1 g2) := by kernel_rfl

noncomputable def impl_Coalgebra_isGroupLike.en (N : Nat) (ρ : Type) : List AV → Heap → (AV → Heap → Option ρ) → Option ρ
  | [.sptr [(0, 2), (1, 520)], .agg [⟨.u8, 8, v0⟩]], [⟨false, .ints .i64 2 g1⟩, ⟨false, .ints .u8 520 g2⟩], K => (impl_Coalgebra_isGroupLike N (fun d0 => K (.bool (d0)) [⟨false, .ints .i64 2 g1⟩, ⟨false, .ints .u8 520 g2⟩]) v0 g1 g2)
  | _, _, _ => none

theorem impl_Coalgebra_isGroupLike.en_ok (N : Nat) (hE : EnvOk (E75 N) ents) (ρ : Type) (args : List AV) (sh : Heap) (K : AV → Heap → Option ρ) (r : ρ) (h : impl_Coalgebra_isGroupLike.en N ρ args sh K = some r) : ∃ v sh', K v sh' = some r ∧ FnOk (E75 N).P 74 args sh v sh' := by
  unfold impl_Coalgebra_isGroupLike.en at h
  split at h
  · exact fn_ok hE (kp := impl_Coalgebra_isGroupLike.kp) (N := N) Go.Proofs.Try.func74 (c := impl_Coalgebra_isGroupLike.bd) (by kernel_rfl) ((impl_Coalgebra_isGroupLike.eq N _ _ _ _).trans h)
  · cases h

noncomputable def E76 (N : Nat) : Env := (E75 N).add 74 (impl_Coalgebra_isGroupLike.en N)

theorem E76_ok (N : Nat) : EnvOk (E76 N) ents := Env.add_ok (E75_ok N) (impl_Coalgebra_isGroupLike.en_ok N (E75_ok N))

noncomputable def impl_IsGroupLike.kp : Keeps := ⟨[], []⟩

noncomputable def impl_IsGroupLike.bd : Code := bodyOf Go.Proofs.Try.f35

noncomputable def impl_IsGroupLike.fin {ρ : Type} (N : Nat) (K : AV → Heap → Option ρ) : XE → St → Option ρ := finK (E76 N) Go.Proofs.Try.f35 [] K

theorem impl_IsGroupLike.eq {ρ : Type} (N : Nat) (K : AV → Heap → Option ρ) (c0 : Nat → Int) (c1 : Nat → Int) (v2 : Nat → Int) :
    xbody (E76 N) ents impl_IsGroupLike.kp N Go.Proofs.Try.f35 impl_IsGroupLike.bd [.agg [⟨.i64, 2, c0⟩, ⟨.u8, 520, c1⟩], .agg [⟨.u8, 8, v2⟩]] [] K = (impl_IsGroupLike N (fun d0 d1 => K (.tup [.bool (d0), .int .i64 (d1)]) []) c0 c1 v2) := by kernel_rfl

noncomputable def impl_IsGroupLike.en (N : Nat) (ρ : Type) : List AV → Heap → (AV → Heap → Option ρ) → Option ρ
  | [.agg [⟨.i64, 2, c0⟩, ⟨.u8, 520, c1⟩], .agg [⟨.u8, 8, v2⟩]], [], K => (impl_IsGroupLike N (fun d0 d1 => K (.tup [.bool (d0), .int .i64 (d1)]) []) c0 c1 v2)
  | _, _, _ => none

theorem impl_IsGroupLike.en_ok (N : Nat) (hE : EnvOk (E76 N) ents) (ρ : Type) (args : List AV) (sh : Heap) (K : AV → Heap → Option ρ) (r : ρ) (h : impl_IsGroupLike.en N ρ args sh K = some r) : ∃ v sh', K v sh' = some r ∧ FnOk (E76 N).P 35 args sh v sh' := by
  unfold impl_IsGroupLike.en at h
  split at h
  · exact fn_ok hE (kp := impl_IsGroupLike.kp) (N := N) Go.Proofs.Try.func35 (c := impl_IsGroupLike.bd) (by kernel_rfl) ((impl_IsGroupLike.eq N _ _ _ _).trans h)
  · cases h

noncomputable def E77 (N : Nat) : Env := (E76 N).add 35 (impl_IsGroupLike.en N)

theorem E77_ok (N : Nat) : EnvOk (E77 N) ents := Env.add_ok (E76_ok N) (impl_IsGroupLike.en_ok N (E76_ok N))

noncomputable def laws_FnExactIsGroupLike.kp : Keeps := ⟨[], []⟩

noncomputable def laws_FnExactIsGroupLike.bd : Code := bodyOf Go.Proofs.Try.f9

noncomputable def laws_FnExactIsGroupLike.fin {ρ : Type} (N : Nat) (K : AV → Heap → Option ρ) : XE → St → Option ρ := finK (E77 N) Go.Proofs.Try.f9 [] K

theorem laws_FnExactIsGroupLike.eq {ρ : Type} (N : Nat) (K : AV → Heap → Option ρ) (aC0 : Nat → Int) (aC1 : Nat → Int) (aV2 : Nat → Int) :
    xbody (E77 N) ents laws_FnExactIsGroupLike.kp N Go.Proofs.Try.f9 laws_FnExactIsGroupLike.bd [.agg [⟨.i64, 2, aC0⟩, ⟨.u8, 520, aC1⟩], .agg [⟨.u8, 8, aV2⟩]] [] K = (laws_FnExactIsGroupLike N (fun d0 => K (.bool (d0)) []) aC0 aC1 aV2) := by kernel_rfl

noncomputable def laws_FnExactIsGroupLike.en (N : Nat) (ρ : Type) : List AV → Heap → (AV → Heap → Option ρ) → Option ρ
  | [.agg [⟨.i64, 2, aC0⟩, ⟨.u8, 520, aC1⟩], .agg [⟨.u8, 8, aV2⟩]], [], K => (laws_FnExactIsGroupLike N (fun d0 => K (.bool (d0)) []) aC0 aC1 aV2)
  | _, _, _ => none

theorem laws_FnExactIsGroupLike.en_ok (N : Nat) (hE : EnvOk (E77 N) ents) (ρ : Type) (args : List AV) (sh : Heap) (K : AV → Heap → Option ρ) (r : ρ) (h : laws_FnExactIsGroupLike.en N ρ args sh K = some r) : ∃ v sh', K v sh' = some r ∧ FnOk (E77 N).P 9 args sh v sh' := by
  unfold laws_FnExactIsGroupLike.en at h
  split at h
  · exact fn_ok hE (kp := laws_FnExactIsGroupLike.kp) (N := N) Go.Proofs.Try.func9 (c := laws_FnExactIsGroupLike.bd) (by kernel_rfl) ((laws_FnExactIsGroupLike.eq N _ _ _ _).trans h)
  · cases h

noncomputable def E78 (N : Nat) : Env := (E77 N).add 9 (laws_FnExactIsGroupLike.en N)

theorem E78_ok (N : Nat) : EnvOk (E78 N) ents := Env.add_ok (E77_ok N) (laws_FnExactIsGroupLike.en_ok N (E77_ok N))

noncomputable def laws_toAlgebra.kp : Keeps := ⟨[], []⟩

noncomputable def laws_toAlgebra.bd : Code := bodyOf Go.Proofs.Try.f42

noncomputable def laws_toAlgebra.fin {ρ : Type} (N : Nat) (K : AV → Heap → Option ρ) : XE → St → Option ρ := finK (E78 N) Go.Proofs.Try.f42 [] K

theorem laws_toAlgebra.eq {ρ : Type} (N : Nat) (K : AV → Heap → Option ρ) (a0 : Nat → Int) (a1 : Nat → Int) :
    xbody (E78 N) ents laws_toAlgebra.kp N Go.Proofs.Try.f42 laws_toAlgebra.bd [.agg [⟨.i64, 2, a0⟩, ⟨.u8, 520, a1⟩]] [] K = (laws_toAlgebra N (fun d0 d1 => K (.agg [⟨.i64, 2, d0⟩, ⟨.u8, 520, d1⟩]) []) a0 a1) := by kernel_rfl

noncomputable def laws_toAlgebra.en (N : Nat) (ρ : Type) : List AV → Heap → (AV → Heap → Option ρ) → Option ρ
  | [.agg [⟨.i64, 2, a0⟩, ⟨.u8, 520, a1⟩]], [], K => (laws_toAlgebra N (fun d0 d1 => K (.agg [⟨.i64, 2, d0⟩, ⟨.u8, 520, d1⟩]) []) a0 a1)
  | _, _, _ => none

theorem laws_toAlgebra.en_ok (N : Nat) (hE : EnvOk (E78 N) ents) (ρ : Type) (args : List AV) (sh : Heap) (K : AV → Heap → Option ρ) (r : ρ) (h : laws_toAlgebra.en N ρ args sh K = some r) : ∃ v sh', K v sh' = some r ∧ FnOk (E78 N).P 42 args sh v sh' := by
  unfold laws_toAlgebra.en at h
  split at h
  · exact fn_ok hE (kp := laws_toAlgebra.kp) (N := N) Go.Proofs.Try.func42 (c := laws_toAlgebra.bd) (by kernel_rfl) ((laws_toAlgebra.eq N _ _ _).trans h)
  · cases h

noncomputable def E79 (N : Nat) : Env := (E78 N).add 42 (laws_toAlgebra.en N)

theorem E79_ok (N : Nat) : EnvOk (E79 N) ents := Env.add_ok (E78_ok N) (laws_toAlgebra.en_ok N (E78_ok N))

noncomputable def spec_l01Shape.kp : Keeps := ⟨[], []⟩

noncomputable def spec_l01Shape.bd : Code := bodyOf Go.Proofs.Try.f133

noncomputable def spec_l01Shape.fin {ρ : Type} (N : Nat) (K : AV → Heap → Option ρ) : XE → St → Option ρ := finK (E79 N) Go.Proofs.Try.f133 [] K

theorem spec_l01Shape.eq {ρ : Type} (N : Nat) (K : AV → Heap → Option ρ) (a0 : Nat → Int) (a1 : Nat → Int) :
    xbody (E79 N) ents spec_l01Shape.kp N Go.Proofs.Try.f133 spec_l01Shape.bd [.agg [⟨.i64, 2, a0⟩, ⟨.u8, 520, a1⟩]] [] K = (spec_l01Shape N (fun d0 => K (.bool (d0)) []) a0 a1) := by kernel_rfl

noncomputable def spec_l01Shape.en (N : Nat) (ρ : Type) : List AV → Heap → (AV → Heap → Option ρ) → Option ρ
  | [.agg [⟨.i64, 2, a0⟩, ⟨.u8, 520, a1⟩]], [], K => (spec_l01Shape N (fun d0 => K (.bool (d0)) []) a0 a1)
  | _, _, _ => none

theorem spec_l01Shape.en_ok (N : Nat) (hE : EnvOk (E79 N) ents) (ρ : Type) (args : List AV) (sh : Heap) (K : AV → Heap → Option ρ) (r : ρ) (h : spec_l01Shape.en N ρ args sh K = some r) : ∃ v sh', K v sh' = some r ∧ FnOk (E79 N).P 133 args sh v sh' := by
  unfold spec_l01Shape.en at h
  split at h
  · exact fn_ok hE (kp := spec_l01Shape.kp) (N := N) Go.Proofs.Try.func133 (c := spec_l01Shape.bd) (by kernel_rfl) ((spec_l01Shape.eq N _ _ _).trans h)
  · cases h

noncomputable def E80 (N : Nat) : Env := (E79 N).add 133 (spec_l01Shape.en N)

theorem E80_ok (N : Nat) : EnvOk (E80 N) ents := Env.add_ok (E79_ok N) (spec_l01Shape.en_ok N (E79_ok N))

noncomputable def spec_l01Apply.kp : Keeps := ⟨[(0, [0, 1, 6, 7, 8, 9, 10], 4)], [(0, [8, 9], 4)]⟩

noncomputable def spec_l01Apply.bd : Code := bodyOf Go.Proofs.Try.f149

noncomputable def spec_l01Apply.fin {ρ : Type} (N : Nat) (K : AV → Heap → Option ρ) : XE → St → Option ρ := finK (E80 N) Go.Proofs.Try.f149 [] K

noncomputable def spec_l01Apply.k0 {ρ : Type} (N : Nat) (K : AV → Heap → Option ρ) : XE → St → Option ρ := (blockK spec_l01Apply.kp 0 0 (seqK (xcode (E80 N) ents spec_l01Apply.kp 0 N (cB (cB (cB spec_l01Apply.bd))) 0) (spec_l01Apply.fin N K)))

theorem spec_l01Apply.k0_mix {ρ : Type} (N : Nat) (K : AV → Heap → Option ρ) : mixK (spec_l01Apply.fin N K .ret) (spec_l01Apply.k0 N K) = (spec_l01Apply.k0 N K) := by
  funext e s; cases e <;> rfl

noncomputable def spec_l01Apply.st0 (p0 : Int) (n1 : Int) (f2 : Nat → Int) (v3 : Nat → Int) (i4 : Int) (g5 : Nat → Int) : St := ⟨sl 32 [(0, .int .i64 (p0)), (1, .int .i64 (n1)), (6, .sptr [(0, 64)]), (7, .sptr [(1, 8)]), (8, .sptr [(2, 8)]), (9, .sptr [(3, 8)]), (10, .int .i64 (i4))], [⟨true, .ints .u8 64 f2⟩, ⟨true, .ints .u8 8 v3⟩, ⟨true, .ints .u8 8 (fun _ => 0)⟩, ⟨true, .ints .u8 8 g5⟩]⟩

noncomputable def spec_l01Apply.sx0_0 (f2 : Nat → Int) (v3 : Nat → Int) (o7 : Nat → Int) : St := ⟨sl 32 [(8, .sptr [(2, 8)]), (9, .sptr [(3, 8)])], [⟨true, .ints .u8 64 f2⟩, ⟨true, .ints .u8 8 v3⟩, ⟨true, .ints .u8 8 (fun _ => 0)⟩, ⟨true, .ints .u8 8 o7⟩]⟩

theorem spec_l01Apply.b0_gen {ρ : Type} (N : Nat) (K : AV → Heap → Option ρ) (L0 : St → Option ρ) (kv : XE → St → Option ρ) (p0 : Int) (n1 : Int) (f2 : Nat → Int) (v3 : Nat → Int) (i4 : Int) (g5 : Nat → Int) :
    xcode (E80 N) ents spec_l01Apply.kp 0 N (cL (cK (cB (cA (cB (cB spec_l01Apply.bd)))))) 0 (spec_l01Apply.st0 p0 n1 f2 v3 i4 g5) (roundK spec_l01Apply.kp 0 0 L0 (mixK (spec_l01Apply.fin N K .ret) kv)) = (spec_l01Apply.b0 N (fun d0 => K (.agg [⟨.u8, 8, d0⟩]) []) (fun i4 g5 => L0 (spec_l01Apply.st0 p0 n1 f2 v3 i4 g5)) (fun o7 => kv (.exit 0) (spec_l01Apply.sx0_0 f2 v3 o7)) p0 n1 f2 v3 i4 g5) := by kernel_rfl

theorem spec_l01Apply.b0_eq {ρ : Type} (N : Nat) (K : AV → Heap → Option ρ) (L0 : St → Option ρ) (p0 : Int) (n1 : Int) (f2 : Nat → Int) (v3 : Nat → Int) (i4 : Int) (g5 : Nat → Int) :
    xcode (E80 N) ents spec_l01Apply.kp 0 N (cL (cK (cB (cA (cB (cB spec_l01Apply.bd)))))) 0 (spec_l01Apply.st0 p0 n1 f2 v3 i4 g5) (roundK spec_l01Apply.kp 0 0 L0 (spec_l01Apply.k0 N K)) = (spec_l01Apply.b0 N (fun d0 => K (.agg [⟨.u8, 8, d0⟩]) []) (fun i4 g5 => L0 (spec_l01Apply.st0 p0 n1 f2 v3 i4 g5)) (fun o7 => (spec_l01Apply.k0 N K) (.exit 0) (spec_l01Apply.sx0_0 f2 v3 o7)) p0 n1 f2 v3 i4 g5) := by
  have h := spec_l01Apply.b0_gen N K L0 (spec_l01Apply.k0 N K) p0 n1 f2 v3 i4 g5
  rw [spec_l01Apply.k0_mix] at h
  exact h

theorem spec_l01Apply.a0_0_eq {ρ : Type} (N : Nat) (K : AV → Heap → Option ρ) (f2 : Nat → Int) (v3 : Nat → Int) (o7 : Nat → Int) :
    (spec_l01Apply.k0 N K) (.exit 0) (spec_l01Apply.sx0_0 f2 v3 o7) = (spec_l01Apply.a0_0 N (fun d0 => K (.agg [⟨.u8, 8, d0⟩]) []) o7) := by kernel_rfl

theorem spec_l01Apply.l0_eq {ρ : Type} (N : Nat) (K : AV → Heap → Option ρ) (p0 : Int) (n1 : Int) (f2 : Nat → Int) (v3 : Nat → Int) :
    ∀ (m : Nat) (i4 : Int) (g5 : Nat → Int), xloop (xcode (E80 N) ents spec_l01Apply.kp 0 N (cL (cK (cB (cA (cB (cB spec_l01Apply.bd)))))) 0) spec_l01Apply.kp 0 0 m (spec_l01Apply.st0 p0 n1 f2 v3 i4 g5) (spec_l01Apply.k0 N K) = (spec_l01Apply.l0 N (fun d0 => K (.agg [⟨.u8, 8, d0⟩]) []) p0 n1 f2 v3 (fun o7 => (spec_l01Apply.k0 N K) (.exit 0) (spec_l01Apply.sx0_0 f2 v3 o7)) m i4 g5) := by
  intro m
  induction m with
  | zero => intros; rfl
  | succ m ih =>
    intro i4 g5
    refine (spec_l01Apply.b0_eq N K (fun s => xloop (xcode (E80 N) ents spec_l01Apply.kp 0 N (cL (cK (cB (cA (cB (cB spec_l01Apply.bd)))))) 0) spec_l01Apply.kp 0 0 m s (spec_l01Apply.k0 N K)) p0 n1 f2 v3 i4 g5).trans ?_
    simp only [ih]
    kernel_rfl

theorem spec_l01Apply.s_eq {ρ : Type} (N : Nat) (K : AV → Heap → Option ρ) (p0 : Int) (n1 : Int) (f2 : Nat → Int) (v3 : Nat → Int) :
    xbody (E80 N) ents spec_l01Apply.kp N Go.Proofs.Try.f149 spec_l01Apply.bd [.int .i64 (p0), .int .i64 (n1), .agg [⟨.u8, 64, f2⟩], .agg [⟨.u8, 8, v3⟩]] [] K = (spec_l01Apply.s N (fun d0 => K (.agg [⟨.u8, 8, d0⟩]) []) (fun i4 g5 => xloop (xcode (E80 N) ents spec_l01Apply.kp 0 N (cL (cK (cB (cA (cB (cB spec_l01Apply.bd)))))) 0) spec_l01Apply.kp 0 0 N (spec_l01Apply.st0 p0 n1 f2 v3 i4 g5) (spec_l01Apply.k0 N K))) := by kernel_rfl

theorem spec_l01Apply.eq {ρ : Type} (N : Nat) (K : AV → Heap → Option ρ) (p0 : Int) (n1 : Int) (f2 : Nat → Int) (v3 : Nat → Int) :
    xbody (E80 N) ents spec_l01Apply.kp N Go.Proofs.Try.f149 spec_l01Apply.bd [.int .i64 (p0), .int .i64 (n1), .agg [⟨.u8, 64, f2⟩], .agg [⟨.u8, 8, v3⟩]] [] K = (spec_l01Apply N (fun d0 => K (.agg [⟨.u8, 8, d0⟩]) []) p0 n1 f2 v3) := by
  refine (spec_l01Apply.s_eq N K p0 n1 f2 v3).trans ?_
  simp only [spec_l01Apply.l0_eq, spec_l01Apply.a0_0_eq]
  kernel_rfl

noncomputable def spec_l01Apply.en (N : Nat) (ρ : Type) : List AV → Heap → (AV → Heap → Option ρ) → Option ρ
  | [.int .i64 (p0), .int .i64 (n1), .agg [⟨.u8, 64, f2⟩], .agg [⟨.u8, 8, v3⟩]], [], K => (spec_l01Apply N (fun d0 => K (.agg [⟨.u8, 8, d0⟩]) []) p0 n1 f2 v3)
  | _, _, _ => none

theorem spec_l01Apply.en_ok (N : Nat) (hE : EnvOk (E80 N) ents) (ρ : Type) (args : List AV) (sh : Heap) (K : AV → Heap → Option ρ) (r : ρ) (h : spec_l01Apply.en N ρ args sh K = some r) : ∃ v sh', K v sh' = some r ∧ FnOk (E80 N).P 149 args sh v sh' := by
  unfold spec_l01Apply.en at h
  split at h
  · exact fn_ok hE (kp := spec_l01Apply.kp) (N := N) Go.Proofs.Try.func149 (c := spec_l01Apply.bd) (by kernel_rfl) ((spec_l01Apply.eq N _ _ _ _ _).trans h)
  · cases h

noncomputable def E81 (N : Nat) : Env := (E80 N).add 149 (spec_l01Apply.en N)

theorem E81_ok (N : Nat) : EnvOk (E81 N) ents := Env.add_ok (E80_ok N) (spec_l01Apply.en_ok N (E80_ok N))

noncomputable def spec_l01Times.kp : Keeps := ⟨[(0, [3, 4, 5, 6, 7, 8], 6)], [(0, [6, 7], 6)]⟩

noncomputable def spec_l01Times.bd : Code := bodyOf Go.Proofs.Try.f134

noncomputable def spec_l01Times.fin {ρ : Type} (N : Nat) (K : AV → Heap → Option ρ) : XE → St → Option ρ := finK (E81 N) Go.Proofs.Try.f134 [] K

noncomputable def spec_l01Times.k0 {ρ : Type} (N : Nat) (K : AV → Heap → Option ρ) : XE → St → Option ρ := (blockK spec_l01Times.kp 0 0 (seqK (xcode (E81 N) ents spec_l01Times.kp 0 N (cB (cB (cB spec_l01Times.bd))) 0) (spec_l01Times.fin N K)))

theorem spec_l01Times.k0_mix {ρ : Type} (N : Nat) (K : AV → Heap → Option ρ) : mixK (spec_l01Times.fin N K .ret) (spec_l01Times.k0 N K) = (spec_l01Times.k0 N K) := by
  funext e s; cases e <;> rfl

noncomputable def spec_l01Times.st0 (a0 : Nat → Int) (a1 : Nat → Int) (v2 : Nat → Int) (w3 : Nat → Int) (i4 : Int) (g5 : Nat → Int) : St := ⟨sl 39 [(3, .sptr [(0, 2), (1, 520)]), (4, .sptr [(2, 8)]), (5, .sptr [(3, 8)]), (6, .sptr [(4, 8)]), (7, .sptr [(5, 8)]), (8, .int .i64 (i4))], [⟨true, .ints .i64 2 a0⟩, ⟨true, .ints .u8 520 a1⟩, ⟨true, .ints .u8 8 v2⟩, ⟨true, .ints .u8 8 w3⟩, ⟨true, .ints .u8 8 (fun _ => 0)⟩, ⟨true, .ints .u8 8 g5⟩]⟩

noncomputable def spec_l01Times.sx0_0 (a0 : Nat → Int) (a1 : Nat → Int) (v2 : Nat → Int) (w3 : Nat → Int) (o8 : Nat → Int) : St := ⟨sl 39 [(6, .sptr [(4, 8)]), (7, .sptr [(5, 8)])], [⟨true, .ints .i64 2 a0⟩, ⟨true, .ints .u8 520 a1⟩, ⟨true, .ints .u8 8 v2⟩, ⟨true, .ints .u8 8 w3⟩, ⟨true, .ints .u8 8 (fun _ => 0)⟩, ⟨true, .ints .u8 8 o8⟩]⟩

theorem spec_l01Times.b0_gen {ρ : Type} (N : Nat) (K : AV → Heap → Option ρ) (L0 : St → Option ρ) (kv : XE → St → Option ρ) (a0 : Nat → Int) (a1 : Nat → Int) (v2 : Nat → Int) (w3 : Nat → Int) (i4 : Int) (g5 : Nat → Int) :
    xcode (E81 N) ents spec_l01Times.kp 0 N (cL (cK (cB (cA (cB (cB spec_l01Times.bd)))))) 0 (spec_l01Times.st0 a0 a1 v2 w3 i4 g5) (roundK spec_l01Times.kp 0 0 L0 (mixK (spec_l01Times.fin N K .ret) kv)) = (spec_l01Times.b0 N (fun d0 => K (.agg [⟨.u8, 8, d0⟩]) []) (fun i4 g5 => L0 (spec_l01Times.st0 a0 a1 v2 w3 i4 g5)) (fun o8 => kv (.exit 0) (spec_l01Times.sx0_0 a0 a1 v2 w3 o8)) a0 a1 v2 w3 i4 g5) := by kernel_rfl

theorem spec_l01Times.b0_eq {ρ : Type} (N : Nat) (K : AV → Heap → Option ρ) (L0 : St → Option ρ) (a0 : Nat → Int) (a1 : Nat → Int) (v2 : Nat → Int) (w3 : Nat → Int) (i4 : Int) (g5 : Nat → Int) :
    xcode (E81 N) ents spec_l01Times.kp 0 N (cL (cK (cB (cA (cB (cB spec_l01Times.bd)))))) 0 (spec_l01Times.st0 a0 a1 v2 w3 i4 g5) (roundK spec_l01Times.kp 0 0 L0 (spec_l01Times.k0 N K)) = (spec_l01Times.b0 N (fun d0 => K (.agg [⟨.u8, 8, d0⟩]) []) (fun i4 g5 => L0 (spec_l01Times.st0 a0 a1 v2 w3 i4 g5)) (fun o8 => (spec_l01Times.k0 N K) (.exit 0) (spec_l01Times.sx0_0 a0 a1 v2 w3 o8)) a0 a1 v2 w3 i4 g5) := by
  have h := spec_l01Times.b0_gen N K L0 (spec_l01Times.k0 N K) a0 a1 v2 w3 i4 g5
  rw [spec_l01Times.k0_mix] at h
  exact h

theorem spec_l01Times.a0_0_eq {ρ : Type} (N : Nat) (K : AV → Heap → Option ρ) (a0 : Nat → Int) (a1 : Nat → Int) (v2 : Nat → Int) (w3 : Nat → Int) (o8 : Nat → Int) :
    (spec_l01Times.k0 N K) (.exit 0) (spec_l01Times.sx0_0 a0 a1 v2 w3 o8) = (spec_l01Times.a0_0 N (fun d0 => K (.agg [⟨.u8, 8, d0⟩]) []) o8) := by kernel_rfl

theorem spec_l01Times.l0_eq {ρ : Type} (N : Nat) (K : AV → Heap → Option ρ) (a0 : Nat → Int) (a1 : Nat → Int) (v2 : Nat → Int) (w3 : Nat → Int) :
    ∀ (m : Nat) (i4 : Int) (g5 : Nat → Int), xloop (xcode (E81 N) ents spec_l01Times.kp 0 N (cL (cK (cB (cA (cB (cB spec_l01Times.bd)))))) 0) spec_l01Times.kp 0 0 m (spec_l01Times.st0 a0 a1 v2 w3 i4 g5) (spec_l01Times.k0 N K) = (spec_l01Times.l0 N (fun d0 => K (.agg [⟨.u8, 8, d0⟩]) []) a0 a1 v2 w3 (fun o8 => (spec_l01Times.k0 N K) (.exit 0) (spec_l01Times.sx0_0 a0 a1 v2 w3 o8)) m i4 g5) := by
  intro m
  induction m with
  | zero => intros; rfl
  | succ m ih =>
    intro i4 g5
    refine (spec_l01Times.b0_eq N K (fun s => xloop (xcode (E81 N) ents spec_l01Times.kp 0 N (cL (cK (cB (cA (cB (cB spec_l01Times.bd)))))) 0) spec_l01Times.kp 0 0 m s (spec_l01Times.k0 N K)) a0 a1 v2 w3 i4 g5).trans ?_
    simp only [ih]
    kernel_rfl

theorem spec_l01Times.s_eq {ρ : Type} (N : Nat) (K : AV → Heap → Option ρ) (a0 : Nat → Int) (a1 : Nat → Int) (v2 : Nat → Int) (w3 : Nat → Int) :
    xbody (E81 N) ents spec_l01Times.kp N Go.Proofs.Try.f134 spec_l01Times.bd [.agg [⟨.i64, 2, a0⟩, ⟨.u8, 520, a1⟩], .agg [⟨.u8, 8, v2⟩], .agg [⟨.u8, 8, w3⟩]] [] K = (spec_l01Times.s N (fun d0 => K (.agg [⟨.u8, 8, d0⟩]) []) (fun i4 g5 => xloop (xcode (E81 N) ents spec_l01Times.kp 0 N (cL (cK (cB (cA (cB (cB spec_l01Times.bd)))))) 0) spec_l01Times.kp 0 0 N (spec_l01Times.st0 a0 a1 v2 w3 i4 g5) (spec_l01Times.k0 N K))) := by kernel_rfl

theorem spec_l01Times.eq {ρ : Type} (N : Nat) (K : AV → Heap → Option ρ) (a0 : Nat → Int) (a1 : Nat → Int) (v2 : Nat → Int) (w3 : Nat → Int) :
    xbody (E81 N) ents spec_l01Times.kp N Go.Proofs.Try.f134 spec_l01Times.bd [.agg [⟨.i64, 2, a0⟩, ⟨.u8, 520, a1⟩], .agg [⟨.u8, 8, v2⟩], .agg [⟨.u8, 8, w3⟩]] [] K = (spec_l01Times N (fun d0 => K (.agg [⟨.u8, 8, d0⟩]) []) a0 a1 v2 w3) := by
  refine (spec_l01Times.s_eq N K a0 a1 v2 w3).trans ?_
  simp only [spec_l01Times.l0_eq, spec_l01Times.a0_0_eq]
  kernel_rfl

noncomputable def spec_l01Times.en (N : Nat) (ρ : Type) : List AV → Heap → (AV → Heap → Option ρ) → Option ρ
  | [.agg [⟨.i64, 2, a0⟩, ⟨.u8, 520, a1⟩], .agg [⟨.u8, 8, v2⟩], .agg [⟨.u8, 8, w3⟩]], [], K => (spec_l01Times N (fun d0 => K (.agg [⟨.u8, 8, d0⟩]) []) a0 a1 v2 w3)
  | _, _, _ => none

theorem spec_l01Times.en_ok (N : Nat) (hE : EnvOk (E81 N) ents) (ρ : Type) (args : List AV) (sh : Heap) (K : AV → Heap → Option ρ) (r : ρ) (h : spec_l01Times.en N ρ args sh K = some r) : ∃ v sh', K v sh' = some r ∧ FnOk (E81 N).P 134 args sh v sh' := by
  unfold spec_l01Times.en at h
  split at h
  · exact fn_ok hE (kp := spec_l01Times.kp) (N := N) Go.Proofs.Try.func134 (c := spec_l01Times.bd) (by kernel_rfl) ((spec_l01Times.eq N _ _ _ _ _).trans h)
  · cases h

noncomputable def E82 (N : Nat) : Env := (E81 N).add 134 (spec_l01Times.en N)

theorem E82_ok (N : Nat) : EnvOk (E82 N) ents := Env.add_ok (E81_ok N) (spec_l01Times.en_ok N (E81_ok N))

noncomputable def spec_l01Fault.kp : Keeps := ⟨[(0, [1, 4], 2), (2, [1, 4, 5], 2), (4, [1, 4, 5, 6], 2)], [(0, [], 2), (2, [1, 4], 2), (4, [1, 4, 5], 2)]⟩

noncomputable def spec_l01Fault.bd : Code := bodyOf Go.Proofs.Try.f135

noncomputable def spec_l01Fault.fin {ρ : Type} (N : Nat) (K : AV → Heap → Option ρ) : XE → St → Option ρ := finK (E82 N) Go.Proofs.Try.f135 [] K

noncomputable def spec_l01Fault.k0 {ρ : Type} (N : Nat) (K : AV → Heap → Option ρ) : XE → St → Option ρ := (blockK spec_l01Fault.kp 0 0 (seqK (xcode (E82 N) ents spec_l01Fault.kp 0 N (cB (cB spec_l01Fault.bd)) 0) (spec_l01Fault.fin N K)))

theorem spec_l01Fault.k0_mix {ρ : Type} (N : Nat) (K : AV → Heap → Option ρ) : mixK (spec_l01Fault.fin N K .ret) (spec_l01Fault.k0 N K) = (spec_l01Fault.k0 N K) := by
  funext e s; cases e <;> rfl

noncomputable def spec_l01Fault.st0 (a0 : Nat → Int) (a1 : Nat → Int) (i2 : Int) : St := ⟨sl 50 [(1, .sptr [(0, 2), (1, 520)]), (4, .int .i64 (i2))], [⟨true, .ints .i64 2 a0⟩, ⟨true, .ints .u8 520 a1⟩]⟩

noncomputable def spec_l01Fault.sx0_0 (a0 : Nat → Int) (a1 : Nat → Int) : St := ⟨sl 50 [], [⟨true, .ints .i64 2 a0⟩, ⟨true, .ints .u8 520 a1⟩]⟩

noncomputable def spec_l01Fault.k1g {ρ : Type} (N : Nat) (L0 : St → Option ρ) (kv : XE → St → Option ρ) : XE → St → Option ρ := (blockK spec_l01Fault.kp 0 2 (blockK spec_l01Fault.kp 0 1 (seqK (xcode (E82 N) ents spec_l01Fault.kp 0 N (cB (cB (cL (cK (cB (cA (cB spec_l01Fault.bd))))))) 0) (roundK spec_l01Fault.kp 0 0 L0 kv))))

theorem spec_l01Fault.k1_mix {ρ : Type} (N : Nat) (K : AV → Heap → Option ρ) (L0 : St → Option ρ) : mixK (spec_l01Fault.fin N K .ret) (spec_l01Fault.k1g N L0 (spec_l01Fault.k0 N K)) = (spec_l01Fault.k1g N L0 (spec_l01Fault.k0 N K)) := by
  funext e s; cases e <;> rfl

noncomputable def spec_l01Fault.st1 (a0 : Nat → Int) (a1 : Nat → Int) (i2 : Int) (j3 : Int) : St := ⟨sl 50 [(1, .sptr [(0, 2), (1, 520)]), (4, .int .i64 (i2)), (5, .int .i64 (j3))], [⟨true, .ints .i64 2 a0⟩, ⟨true, .ints .u8 520 a1⟩]⟩

noncomputable def spec_l01Fault.sx1_0 (a0 : Nat → Int) (a1 : Nat → Int) (i2 : Int) : St := ⟨sl 50 [(1, .sptr [(0, 2), (1, 520)]), (4, .int .i64 (i2))], [⟨true, .ints .i64 2 a0⟩, ⟨true, .ints .u8 520 a1⟩]⟩

noncomputable def spec_l01Fault.k2g {ρ : Type} (N : Nat) (L1 : St → Option ρ) (kv : XE → St → Option ρ) : XE → St → Option ρ := (blockK spec_l01Fault.kp 0 4 (blockK spec_l01Fault.kp 0 3 (seqK (xcode (E82 N) ents spec_l01Fault.kp 0 N (cB (cB (cL (cK (cB (cK (cA (cB (cL (cK (cB (cA (cB spec_l01Fault.bd))))))))))))) 2) (roundK spec_l01Fault.kp 0 2 L1 kv))))

theorem spec_l01Fault.k2_mix {ρ : Type} (N : Nat) (K : AV → Heap → Option ρ) (L0 : St → Option ρ) (L1 : St → Option ρ) : mixK (spec_l01Fault.fin N K .ret) (spec_l01Fault.k2g N L1 (spec_l01Fault.k1g N L0 (spec_l01Fault.k0 N K))) = (spec_l01Fault.k2g N L1 (spec_l01Fault.k1g N L0 (spec_l01Fault.k0 N K))) := by
  funext e s; cases e <;> rfl

noncomputable def spec_l01Fault.st2 (a0 : Nat → Int) (a1 : Nat → Int) (i2 : Int) (j3 : Int) (k4 : Int) : St := ⟨sl 50 [(1, .sptr [(0, 2), (1, 520)]), (4, .int .i64 (i2)), (5, .int .i64 (j3)), (6, .int .i64 (k4))], [⟨true, .ints .i64 2 a0⟩, ⟨true, .ints .u8 520 a1⟩]⟩

noncomputable def spec_l01Fault.sx2_0 (a0 : Nat → Int) (a1 : Nat → Int) (i2 : Int) (j3 : Int) : St := ⟨sl 50 [(1, .sptr [(0, 2), (1, 520)]), (4, .int .i64 (i2)), (5, .int .i64 (j3))], [⟨true, .ints .i64 2 a0⟩, ⟨true, .ints .u8 520 a1⟩]⟩

theorem spec_l01Fault.b2_gen {ρ : Type} (N : Nat) (K : AV → Heap → Option ρ) (L2 : St → Option ρ) (kv : XE → St → Option ρ) (a0 : Nat → Int) (a1 : Nat → Int) (i2 : Int) (j3 : Int) (k4 : Int) :
    xcode (E82 N) ents spec_l01Fault.kp 0 N (cL (cK (cB (cK (cA (cB (cL (cK (cB (cK (cA (cB (cL (cK (cB (cA (cB spec_l01Fault.bd))))))))))))))))) 4 (spec_l01Fault.st2 a0 a1 i2 j3 k4) (roundK spec_l01Fault.kp 0 4 L2 (mixK (spec_l01Fault.fin N K .ret) kv)) = (spec_l01Fault.b2 N (fun d0 d1 d2 d3 => K (.tup [.slice 0 0 d0 (some d1) 1, .bool (d2)]) [⟨true, .ints .i64 3 d3⟩]) (fun d0 => K (.tup [.nils, .bool (d0)]) []) (fun k4 => L2 (spec_l01Fault.st2 a0 a1 i2 j3 k4)) (kv (.exit 4) (spec_l01Fault.sx2_0 a0 a1 i2 j3)) a0 a1 i2 j3 k4) := by kernel_rfl

theorem spec_l01Fault.b2_eq {ρ : Type} (N : Nat) (K : AV → Heap → Option ρ) (L0 : St → Option ρ) (L1 : St → Option ρ) (L2 : St → Option ρ) (a0 : Nat → Int) (a1 : Nat → Int) (i2 : Int) (j3 : Int) (k4 : Int) :
    xcode (E82 N) ents spec_l01Fault.kp 0 N (cL (cK (cB (cK (cA (cB (cL (cK (cB (cK (cA (cB (cL (cK (cB (cA (cB spec_l01Fault.bd))))))))))))))))) 4 (spec_l01Fault.st2 a0 a1 i2 j3 k4) (roundK spec_l01Fault.kp 0 4 L2 (spec_l01Fault.k2g N L1 (spec_l01Fault.k1g N L0 (spec_l01Fault.k0 N K)))) = (spec_l01Fault.b2 N (fun d0 d1 d2 d3 => K (.tup [.slice 0 0 d0 (some d1) 1, .bool (d2)]) [⟨true, .ints .i64 3 d3⟩]) (fun d0 => K (.tup [.nils, .bool (d0)]) []) (fun k4 => L2 (spec_l01Fault.st2 a0 a1 i2 j3 k4)) ((spec_l01Fault.k2g N L1 (spec_l01Fault.k1g N L0 (spec_l01Fault.k0 N K))) (.exit 4) (spec_l01Fault.sx2_0 a0 a1 i2 j3)) a0 a1 i2 j3 k4) := by
  have h := spec_l01Fault.b2_gen N K L2 (spec_l01Fault.k2g N L1 (spec_l01Fault.k1g N L0 (spec_l01Fault.k0 N K))) a0 a1 i2 j3 k4
  rw [spec_l01Fault.k2_mix] at h
  exact h

theorem spec_l01Fault.a2_0_gen {ρ : Type} (N : Nat) (K : AV → Heap → Option ρ) (L1 : St → Option ρ) (kv : XE → St → Option ρ) (a0 : Nat → Int) (a1 : Nat → Int) (i2 : Int) (j3 : Int) :
    (spec_l01Fault.k2g N L1 (mixK (spec_l01Fault.fin N K .ret) kv)) (.exit 4) (spec_l01Fault.sx2_0 a0 a1 i2 j3) = (spec_l01Fault.a2_0 N (fun d0 d1 d2 d3 => K (.tup [.slice 0 0 d0 (some d1) 1, .bool (d2)]) [⟨true, .ints .i64 3 d3⟩]) (fun d0 => K (.tup [.nils, .bool (d0)]) []) (fun j3 => L1 (spec_l01Fault.st1 a0 a1 i2 j3)) (kv (.exit 2) (spec_l01Fault.sx1_0 a0 a1 i2)) j3) := by kernel_rfl

theorem spec_l01Fault.a2_0_eq {ρ : Type} (N : Nat) (K : AV → Heap → Option ρ) (L0 : St → Option ρ) (L1 : St → Option ρ) (a0 : Nat → Int) (a1 : Nat → Int) (i2 : Int) (j3 : Int) :
    (spec_l01Fault.k2g N L1 (spec_l01Fault.k1g N L0 (spec_l01Fault.k0 N K))) (.exit 4) (spec_l01Fault.sx2_0 a0 a1 i2 j3) = (spec_l01Fault.a2_0 N (fun d0 d1 d2 d3 => K (.tup [.slice 0 0 d0 (some d1) 1, .bool (d2)]) [⟨true, .ints .i64 3 d3⟩]) (fun d0 => K (.tup [.nils, .bool (d0)]) []) (fun j3 => L1 (spec_l01Fault.st1 a0 a1 i2 j3)) ((spec_l01Fault.k1g N L0 (spec_l01Fault.k0 N K)) (.exit 2) (spec_l01Fault.sx1_0 a0 a1 i2)) j3) := by
  have h := spec_l01Fault.a2_0_gen N K L1 (spec_l01Fault.k1g N L0 (spec_l01Fault.k0 N K)) a0 a1 i2 j3
  rw [spec_l01Fault.k1_mix] at h
  exact h

theorem spec_l01Fault.b1_gen {ρ : Type} (N : Nat) (K : AV → Heap → Option ρ) (L1 : St → Option ρ) (kv : XE → St → Option ρ) (a0 : Nat → Int) (a1 : Nat → Int) (i2 : Int) (j3 : Int) :
    xcode (E82 N) ents spec_l01Fault.kp 0 N (cL (cK (cB (cK (cA (cB (cL (cK (cB (cA (cB spec_l01Fault.bd))))))))))) 2 (spec_l01Fault.st1 a0 a1 i2 j3) (roundK spec_l01Fault.kp 0 2 L1 (mixK (spec_l01Fault.fin N K .ret) kv)) = (spec_l01Fault.b1 N (fun d0 d1 d2 d3 => K (.tup [.slice 0 0 d0 (some d1) 1, .bool (d2)]) [⟨true, .ints .i64 3 d3⟩]) (fun d0 => K (.tup [.nils, .bool (d0)]) []) (fun k4 => xloop (xcode (E82 N) ents spec_l01Fault.kp 0 N (cL (cK (cB (cK (cA (cB (cL (cK (cB (cK (cA (cB (cL (cK (cB (cA (cB spec_l01Fault.bd))))))))))))))))) 4) spec_l01Fault.kp 0 4 N (spec_l01Fault.st2 a0 a1 i2 j3 k4) (spec_l01Fault.k2g N L1 (mixK (spec_l01Fault.fin N K .ret) kv))) (fun j3 => L1 (spec_l01Fault.st1 a0 a1 i2 j3)) (kv (.exit 2) (spec_l01Fault.sx1_0 a0 a1 i2)) a0 j3) := by kernel_rfl

theorem spec_l01Fault.b1_eq {ρ : Type} (N : Nat) (K : AV → Heap → Option ρ) (L0 : St → Option ρ) (L1 : St → Option ρ) (a0 : Nat → Int) (a1 : Nat → Int) (i2 : Int) (j3 : Int) :
    xcode (E82 N) ents spec_l01Fault.kp 0 N (cL (cK (cB (cK (cA (cB (cL (cK (cB (cA (cB spec_l01Fault.bd))))))))))) 2 (spec_l01Fault.st1 a0 a1 i2 j3) (roundK spec_l01Fault.kp 0 2 L1 (spec_l01Fault.k1g N L0 (spec_l01Fault.k0 N K))) = (spec_l01Fault.b1 N (fun d0 d1 d2 d3 => K (.tup [.slice 0 0 d0 (some d1) 1, .bool (d2)]) [⟨true, .ints .i64 3 d3⟩]) (fun d0 => K (.tup [.nils, .bool (d0)]) []) (fun k4 => xloop (xcode (E82 N) ents spec_l01Fault.kp 0 N (cL (cK (cB (cK (cA (cB (cL (cK (cB (cK (cA (cB (cL (cK (cB (cA (cB spec_l01Fault.bd))))))))))))))))) 4) spec_l01Fault.kp 0 4 N (spec_l01Fault.st2 a0 a1 i2 j3 k4) (spec_l01Fault.k2g N L1 (spec_l01Fault.k1g N L0 (spec_l01Fault.k0 N K)))) (fun j3 => L1 (spec_l01Fault.st1 a0 a1 i2 j3)) ((spec_l01Fault.k1g N L0 (spec_l01Fault.k0 N K)) (.exit 2) (spec_l01Fault.sx1_0 a0 a1 i2)) a0 j3) := by
  have h := spec_l01Fault.b1_gen N K L1 (spec_l01Fault.k1g N L0 (spec_l01Fault.k0 N K)) a0 a1 i2 j3
  rw [spec_l01Fault.k1_mix] at h
  exact h

theorem spec_l01Fault.a1_0_gen {ρ : Type} (N : Nat) (K : AV → Heap → Option ρ) (L0 : St → Option ρ) (kv : XE → St → Option ρ) (a0 : Nat → Int) (a1 : Nat → Int) (i2 : Int) :
    (spec_l01Fault.k1g N L0 (mixK (spec_l01Fault.fin N K .ret) kv)) (.exit 2) (spec_l01Fault.sx1_0 a0 a1 i2) = (spec_l01Fault.a1_0 N (fun d0 d1 d2 d3 => K (.tup [.slice 0 0 d0 (some d1) 1, .bool (d2)]) [⟨true, .ints .i64 3 d3⟩]) (fun d0 => K (.tup [.nils, .bool (d0)]) []) (fun i2 => L0 (spec_l01Fault.st0 a0 a1 i2)) (kv (.exit 0) (spec_l01Fault.sx0_0 a0 a1)) i2) := by kernel_rfl

theorem spec_l01Fault.a1_0_eq {ρ : Type} (N : Nat) (K : AV → Heap → Option ρ) (L0 : St → Option ρ) (a0 : Nat → Int) (a1 : Nat → Int) (i2 : Int) :
    (spec_l01Fault.k1g N L0 (spec_l01Fault.k0 N K)) (.exit 2) (spec_l01Fault.sx1_0 a0 a1 i2) = (spec_l01Fault.a1_0 N (fun d0 d1 d2 d3 => K (.tup [.slice 0 0 d0 (some d1) 1, .bool (d2)]) [⟨true, .ints .i64 3 d3⟩]) (fun d0 => K (.tup [.nils, .bool (d0)]) []) (fun i2 => L0 (spec_l01Fault.st0 a0 a1 i2)) ((spec_l01Fault.k0 N K) (.exit 0) (spec_l01Fault.sx0_0 a0 a1)) i2) := by
  have h := spec_l01Fault.a1_0_gen N K L0 (spec_l01Fault.k0 N K) a0 a1 i2
  rw [spec_l01Fault.k0_mix] at h
  exact h

theorem spec_l01Fault.b0_gen {ρ : Type} (N : Nat) (K : AV → Heap → Option ρ) (L0 : St → Option ρ) (kv : XE → St → Option ρ) (a0 : Nat → Int) (a1 : Nat → Int) (i2 : Int) :
    xcode (E82 N) ents spec_l01Fault.kp 0 N (cL (cK (cB (cA (cB spec_l01Fault.bd))))) 0 (spec_l01Fault.st0 a0 a1 i2) (roundK spec_l01Fault.kp 0 0 L0 (mixK (spec_l01Fault.fin N K .ret) kv)) = (spec_l01Fault.b0 N (fun d0 d1 d2 d3 => K (.tup [.slice 0 0 d0 (some d1) 1, .bool (d2)]) [⟨true, .ints .i64 3 d3⟩]) (fun d0 => K (.tup [.nils, .bool (d0)]) []) (fun j3 => xloop (xcode (E82 N) ents spec_l01Fault.kp 0 N (cL (cK (cB (cK (cA (cB (cL (cK (cB (cA (cB spec_l01Fault.bd))))))))))) 2) spec_l01Fault.kp 0 2 N (spec_l01Fault.st1 a0 a1 i2 j3) (spec_l01Fault.k1g N L0 (mixK (spec_l01Fault.fin N K .ret) kv))) (fun i2 => L0 (spec_l01Fault.st0 a0 a1 i2)) (kv (.exit 0) (spec_l01Fault.sx0_0 a0 a1)) a0 i2) := by kernel_rfl

theorem spec_l01Fault.b0_eq {ρ : Type} (N : Nat) (K : AV → Heap → Option ρ) (L0 : St → Option ρ) (a0 : Nat → Int) (a1 : Nat → Int) (i2 : Int) :
    xcode (E82 N) ents spec_l01Fault.kp 0 N (cL (cK (cB (cA (cB spec_l01Fault.bd))))) 0 (spec_l01Fault.st0 a0 a1 i2) (roundK spec_l01Fault.kp 0 0 L0 (spec_l01Fault.k0 N K)) = (spec_l01Fault.b0 N (fun d0 d1 d2 d3 => K (.tup [.slice 0 0 d0 (some d1) 1, .bool (d2)]) [⟨true, .ints .i64 3 d3⟩]) (fun d0 => K (.tup [.nils, .bool (d0)]) []) (fun j3 => xloop (xcode (E82 N) ents spec_l01Fault.kp 0 N (cL (cK (cB (cK (cA (cB (cL (cK (cB (cA (cB spec_l01Fault.bd))))))))))) 2) spec_l01Fault.kp 0 2 N (spec_l01Fault.st1 a0 a1 i2 j3) (spec_l01Fault.k1g N L0 (spec_l01Fault.k0 N K))) (fun i2 => L0 (spec_l01Fault.st0 a0 a1 i2)) ((spec_l01Fault.k0 N K) (.exit 0) (spec_l01Fault.sx0_0 a0 a1)) a0 i2) := by
  have h := spec_l01Fault.b0_gen N K L0 (spec_l01Fault.k0 N K) a0 a1 i2
  rw [spec_l01Fault.k0_mix] at h
  exact h

theorem spec_l01Fault.a0_0_eq {ρ : Type} (N : Nat) (K : AV → Heap → Option ρ) (a0 : Nat → Int) (a1 : Nat → Int) :
    (spec_l01Fault.k0 N K) (.exit 0) (spec_l01Fault.sx0_0 a0 a1) = (spec_l01Fault.a0_0 N (fun d0 d1 d2 d3 => K (.tup [.slice 0 0 d0 (some d1) 1, .bool (d2)]) [⟨true, .ints .i64 3 d3⟩]) (fun d0 => K (.tup [.nils, .bool (d0)]) [])) := by kernel_rfl

theorem spec_l01Fault.l2_eq {ρ : Type} (N : Nat) (K : AV → Heap → Option ρ) (L0 : St → Option ρ) (L1 : St → Option ρ) (a0 : Nat → Int) (a1 : Nat → Int) (i2 : Int) (j3 : Int) :
    ∀ (m : Nat) (k4 : Int), xloop (xcode (E82 N) ents spec_l01Fault.kp 0 N (cL (cK (cB (cK (cA (cB (cL (cK (cB (cK (cA (cB (cL (cK (cB (cA (cB spec_l01Fault.bd))))))))))))))))) 4) spec_l01Fault.kp 0 4 m (spec_l01Fault.st2 a0 a1 i2 j3 k4) (spec_l01Fault.k2g N L1 (spec_l01Fault.k1g N L0 (spec_l01Fault.k0 N K))) = (spec_l01Fault.l2 N (fun d0 d1 d2 d3 => K (.tup [.slice 0 0 d0 (some d1) 1, .bool (d2)]) [⟨true, .ints .i64 3 d3⟩]) (fun d0 => K (.tup [.nils, .bool (d0)]) []) a0 a1 i2 j3 ((spec_l01Fault.k2g N L1 (spec_l01Fault.k1g N L0 (spec_l01Fault.k0 N K))) (.exit 4) (spec_l01Fault.sx2_0 a0 a1 i2 j3)) m k4) := by
  intro m
  induction m with
  | zero => intros; rfl
  | succ m ih =>
    intro k4
    refine (spec_l01Fault.b2_eq N K L0 L1 (fun s => xloop (xcode (E82 N) ents spec_l01Fault.kp 0 N (cL (cK (cB (cK (cA (cB (cL (cK (cB (cK (cA (cB (cL (cK (cB (cA (cB spec_l01Fault.bd))))))))))))))))) 4) spec_l01Fault.kp 0 4 m s (spec_l01Fault.k2g N L1 (spec_l01Fault.k1g N L0 (spec_l01Fault.k0 N K)))) a0 a1 i2 j3 k4).trans ?_
    simp only [ih]
    kernel_rfl

theorem spec_l01Fault.l1_eq {ρ : Type} (N : Nat) (K : AV → Heap → Option ρ) (L0 : St → Option ρ) (a0 : Nat → Int) (a1 : Nat → Int) (i2 : Int) :
    ∀ (m : Nat) (j3 : Int), xloop (xcode (E82 N) ents spec_l01Fault.kp 0 N (cL (cK (cB (cK (cA (cB (cL (cK (cB (cA (cB spec_l01Fault.bd))))))))))) 2) spec_l01Fault.kp 0 2 m (spec_l01Fault.st1 a0 a1 i2 j3) (spec_l01Fault.k1g N L0 (spec_l01Fault.k0 N K)) = (spec_l01Fault.l1 N (fun d0 d1 d2 d3 => K (.tup [.slice 0 0 d0 (some d1) 1, .bool (d2)]) [⟨true, .ints .i64 3 d3⟩]) (fun d0 => K (.tup [.nils, .bool (d0)]) []) a0 a1 i2 ((spec_l01Fault.k1g N L0 (spec_l01Fault.k0 N K)) (.exit 2) (spec_l01Fault.sx1_0 a0 a1 i2)) m j3) := by
  intro m
  induction m with
  | zero => intros; rfl
  | succ m ih =>
    intro j3
    refine (spec_l01Fault.b1_eq N K L0 (fun s => xloop (xcode (E82 N) ents spec_l01Fault.kp 0 N (cL (cK (cB (cK (cA (cB (cL (cK (cB (cA (cB spec_l01Fault.bd))))))))))) 2) spec_l01Fault.kp 0 2 m s (spec_l01Fault.k1g N L0 (spec_l01Fault.k0 N K))) a0 a1 i2 j3).trans ?_
    simp only [ih, spec_l01Fault.l2_eq, spec_l01Fault.a2_0_eq]
    kernel_rfl

theorem spec_l01Fault.l0_eq {ρ : Type} (N : Nat) (K : AV → Heap → Option ρ) (a0 : Nat → Int) (a1 : Nat → Int) :
    ∀ (m : Nat) (i2 : Int), xloop (xcode (E82 N) ents spec_l01Fault.kp 0 N (cL (cK (cB (cA (cB spec_l01Fault.bd))))) 0) spec_l01Fault.kp 0 0 m (spec_l01Fault.st0 a0 a1 i2) (spec_l01Fault.k0 N K) = (spec_l01Fault.l0 N (fun d0 d1 d2 d3 => K (.tup [.slice 0 0 d0 (some d1) 1, .bool (d2)]) [⟨true, .ints .i64 3 d3⟩]) (fun d0 => K (.tup [.nils, .bool (d0)]) []) a0 a1 ((spec_l01Fault.k0 N K) (.exit 0) (spec_l01Fault.sx0_0 a0 a1)) m i2) := by
  intro m
  induction m with
  | zero => intros; rfl
  | succ m ih =>
    intro i2
    refine (spec_l01Fault.b0_eq N K (fun s => xloop (xcode (E82 N) ents spec_l01Fault.kp 0 N (cL (cK (cB (cA (cB spec_l01Fault.bd))))) 0) spec_l01Fault.kp 0 0 m s (spec_l01Fault.k0 N K)) a0 a1 i2).trans ?_
    simp only [ih, spec_l01Fault.l1_eq, spec_l01Fault.a1_0_eq]
    kernel_rfl

theorem spec_l01Fault.s_eq {ρ : Type} (N : Nat) (K : AV → Heap → Option ρ) (a0 : Nat → Int) (a1 : Nat → Int) :
    xbody (E82 N) ents spec_l01Fault.kp N Go.Proofs.Try.f135 spec_l01Fault.bd [.agg [⟨.i64, 2, a0⟩, ⟨.u8, 520, a1⟩]] [] K = (spec_l01Fault.s N (fun d0 d1 d2 d3 => K (.tup [.slice 0 0 d0 (some d1) 1, .bool (d2)]) [⟨true, .ints .i64 3 d3⟩]) (fun d0 => K (.tup [.nils, .bool (d0)]) []) (fun i2 => xloop (xcode (E82 N) ents spec_l01Fault.kp 0 N (cL (cK (cB (cA (cB spec_l01Fault.bd))))) 0) spec_l01Fault.kp 0 0 N (spec_l01Fault.st0 a0 a1 i2) (spec_l01Fault.k0 N K))) := by kernel_rfl

theorem spec_l01Fault.eq {ρ : Type} (N : Nat) (K : AV → Heap → Option ρ) (a0 : Nat → Int) (a1 : Nat → Int) :
    xbody (E82 N) ents spec_l01Fault.kp N Go.Proofs.Try.f135 spec_l01Fault.bd [.agg [⟨.i64, 2, a0⟩, ⟨.u8, 520, a1⟩]] [] K = (spec_l01Fault N (fun d0 d1 d2 d3 => K (.tup [.slice 0 0 d0 (some d1) 1, .bool (d2)]) [⟨true, .ints .i64 3 d3⟩]) (fun d0 => K (.tup [.nils, .bool (d0)]) []) a0 a1) := by
  refine (spec_l01Fault.s_eq N K a0 a1).trans ?_
  simp only [spec_l01Fault.l0_eq, spec_l01Fault.a0_0_eq]
  kernel_rfl

noncomputable def spec_l01Fault.en (N : Nat) (ρ : Type) : List AV → Heap → (AV → Heap → Option ρ) → Option ρ
  | [.agg [⟨.i64, 2, a0⟩, ⟨.u8, 520, a1⟩]], [], K => (spec_l01Fault N (fun d0 d1 d2 d3 => K (.tup [.slice 0 0 d0 (some d1) 1, .bool (d2)]) [⟨true, .ints .i64 3 d3⟩]) (fun d0 => K (.tup [.nils, .bool (d0)]) []) a0 a1)
  | _, _, _ => none

theorem spec_l01Fault.en_ok (N : Nat) (hE : EnvOk (E82 N) ents) (ρ : Type) (args : List AV) (sh : Heap) (K : AV → Heap → Option ρ) (r : ρ) (h : spec_l01Fault.en N ρ args sh K = some r) : ∃ v sh', K v sh' = some r ∧ FnOk (E82 N).P 135 args sh v sh' := by
  unfold spec_l01Fault.en at h
  split at h
  · exact fn_ok hE (kp := spec_l01Fault.kp) (N := N) Go.Proofs.Try.func135 (c := spec_l01Fault.bd) (by kernel_rfl) ((spec_l01Fault.eq N _ _ _).trans h)
  · cases h

noncomputable def E83 (N : Nat) : Env := (E82 N).add 135 (spec_l01Fault.en N)

theorem E83_ok (N : Nat) : EnvOk (E83 N) ents := Env.add_ok (E82_ok N) (spec_l01Fault.en_ok N (E82_ok N))

noncomputable def spec_l01Is.kp : Keeps := ⟨[(0, [1, 3], 2)], [(0, [1], 2)]⟩

noncomputable def spec_l01Is.bd : Code := bodyOf Go.Proofs.Try.f107

noncomputable def spec_l01Is.fin {ρ : Type} (N : Nat) (K : AV → Heap → Option ρ) : XE → St → Option ρ := finK (E83 N) Go.Proofs.Try.f107 [] K

noncomputable def spec_l01Is.k0 {ρ : Type} (N : Nat) (K : AV → Heap → Option ρ) : XE → St → Option ρ := (blockK spec_l01Is.kp 0 0 (seqK (xcode (E83 N) ents spec_l01Is.kp 0 N (cB (cB (cB spec_l01Is.bd))) 0) (spec_l01Is.fin N K)))

theorem spec_l01Is.k0_mix {ρ : Type} (N : Nat) (K : AV → Heap → Option ρ) : mixK (spec_l01Is.fin N K .ret) (spec_l01Is.k0 N K) = (spec_l01Is.k0 N K) := by
  funext e s; cases e <;> rfl

noncomputable def spec_l01Is.st0 (a0 : Nat → Int) (a1 : Nat → Int) (i3 : Int) : St := ⟨sl 42 [(1, .sptr [(0, 2), (1, 520)]), (3, .int .i64 (i3))], [⟨true, .ints .i64 2 a0⟩, ⟨true, .ints .u8 520 a1⟩]⟩

noncomputable def spec_l01Is.sx0_0 (a0 : Nat → Int) (a1 : Nat → Int) : St := ⟨sl 42 [(1, .sptr [(0, 2), (1, 520)])], [⟨true, .ints .i64 2 a0⟩, ⟨true, .ints .u8 520 a1⟩]⟩

theorem spec_l01Is.b0_gen {ρ : Type} (N : Nat) (K : AV → Heap → Option ρ) (L0 : St → Option ρ) (kv : XE → St → Option ρ) (a0 : Nat → Int) (a1 : Nat → Int) (i3 : Int) :
    xcode (E83 N) ents spec_l01Is.kp 0 N (cL (cK (cB (cA (cB (cB spec_l01Is.bd)))))) 0 (spec_l01Is.st0 a0 a1 i3) (roundK spec_l01Is.kp 0 0 L0 (mixK (spec_l01Is.fin N K .ret) kv)) = (spec_l01Is.b0 N (fun d0 => K (.bool (d0)) []) (fun i3 => L0 (spec_l01Is.st0 a0 a1 i3)) (kv (.exit 0) (spec_l01Is.sx0_0 a0 a1)) a0 a1 i3) := by kernel_rfl

theorem spec_l01Is.b0_eq {ρ : Type} (N : Nat) (K : AV → Heap → Option ρ) (L0 : St → Option ρ) (a0 : Nat → Int) (a1 : Nat → Int) (i3 : Int) :
    xcode (E83 N) ents spec_l01Is.kp 0 N (cL (cK (cB (cA (cB (cB spec_l01Is.bd)))))) 0 (spec_l01Is.st0 a0 a1 i3) (roundK spec_l01Is.kp 0 0 L0 (spec_l01Is.k0 N K)) = (spec_l01Is.b0 N (fun d0 => K (.bool (d0)) []) (fun i3 => L0 (spec_l01Is.st0 a0 a1 i3)) ((spec_l01Is.k0 N K) (.exit 0) (spec_l01Is.sx0_0 a0 a1)) a0 a1 i3) := by
  have h := spec_l01Is.b0_gen N K L0 (spec_l01Is.k0 N K) a0 a1 i3
  rw [spec_l01Is.k0_mix] at h
  exact h

theorem spec_l01Is.a0_0_eq {ρ : Type} (N : Nat) (K : AV → Heap → Option ρ) (a0 : Nat → Int) (a1 : Nat → Int) :
    (spec_l01Is.k0 N K) (.exit 0) (spec_l01Is.sx0_0 a0 a1) = (spec_l01Is.a0_0 N (fun d0 => K (.bool (d0)) []) a0 a1) := by kernel_rfl

theorem spec_l01Is.l0_eq {ρ : Type} (N : Nat) (K : AV → Heap → Option ρ) (a0 : Nat → Int) (a1 : Nat → Int) :
    ∀ (m : Nat) (i3 : Int), xloop (xcode (E83 N) ents spec_l01Is.kp 0 N (cL (cK (cB (cA (cB (cB spec_l01Is.bd)))))) 0) spec_l01Is.kp 0 0 m (spec_l01Is.st0 a0 a1 i3) (spec_l01Is.k0 N K) = (spec_l01Is.l0 N (fun d0 => K (.bool (d0)) []) a0 a1 ((spec_l01Is.k0 N K) (.exit 0) (spec_l01Is.sx0_0 a0 a1)) m i3) := by
  intro m
  induction m with
  | zero => intros; rfl
  | succ m ih =>
    intro i3
    refine (spec_l01Is.b0_eq N K (fun s => xloop (xcode (E83 N) ents spec_l01Is.kp 0 N (cL (cK (cB (cA (cB (cB spec_l01Is.bd)))))) 0) spec_l01Is.kp 0 0 m s (spec_l01Is.k0 N K)) a0 a1 i3).trans ?_
    simp only [ih]
    kernel_rfl

theorem spec_l01Is.s_eq {ρ : Type} (N : Nat) (K : AV → Heap → Option ρ) (a0 : Nat → Int) (a1 : Nat → Int) :
    xbody (E83 N) ents spec_l01Is.kp N Go.Proofs.Try.f107 spec_l01Is.bd [.agg [⟨.i64, 2, a0⟩, ⟨.u8, 520, a1⟩]] [] K = (spec_l01Is.s N (fun d0 => K (.bool (d0)) []) (fun i3 => xloop (xcode (E83 N) ents spec_l01Is.kp 0 N (cL (cK (cB (cA (cB (cB spec_l01Is.bd)))))) 0) spec_l01Is.kp 0 0 N (spec_l01Is.st0 a0 a1 i3) (spec_l01Is.k0 N K)) a0 a1) := by kernel_rfl

theorem spec_l01Is.eq {ρ : Type} (N : Nat) (K : AV → Heap → Option ρ) (a0 : Nat → Int) (a1 : Nat → Int) :
    xbody (E83 N) ents spec_l01Is.kp N Go.Proofs.Try.f107 spec_l01Is.bd [.agg [⟨.i64, 2, a0⟩, ⟨.u8, 520, a1⟩]] [] K = (spec_l01Is N (fun d0 => K (.bool (d0)) []) a0 a1) := by
  refine (spec_l01Is.s_eq N K a0 a1).trans ?_
  simp only [spec_l01Is.l0_eq, spec_l01Is.a0_0_eq]
  kernel_rfl

noncomputable def spec_l01Is.en (N : Nat) (ρ : Type) : List AV → Heap → (AV → Heap → Option ρ) → Option ρ
  | [.agg [⟨.i64, 2, a0⟩, ⟨.u8, 520, a1⟩]], [], K => (spec_l01Is N (fun d0 => K (.bool (d0)) []) a0 a1)
  | _, _, _ => none

theorem spec_l01Is.en_ok (N : Nat) (hE : EnvOk (E83 N) ents) (ρ : Type) (args : List AV) (sh : Heap) (K : AV → Heap → Option ρ) (r : ρ) (h : spec_l01Is.en N ρ args sh K = some r) : ∃ v sh', K v sh' = some r ∧ FnOk (E83 N).P 107 args sh v sh' := by
  unfold spec_l01Is.en at h
  split at h
  · exact fn_ok hE (kp := spec_l01Is.kp) (N := N) Go.Proofs.Try.func107 (c := spec_l01Is.bd) (by kernel_rfl) ((spec_l01Is.eq N _ _ _).trans h)
  · cases h

noncomputable def E84 (N : Nat) : Env := (E83 N).add 107 (spec_l01Is.en N)

theorem E84_ok (N : Nat) : EnvOk (E84 N) ents := Env.add_ok (E83_ok N) (spec_l01Is.en_ok N (E83_ok N))

noncomputable def spec_l02Maps_n.kp : Keeps := ⟨[(0, [2, 3, 4, 7], 4)], [(0, [3, 4], 4)]⟩

noncomputable def spec_l02Maps_n.bd : Code := bodyOf Go.Proofs.Try.f77

noncomputable def spec_l02Maps_n.fin {ρ : Type} (N : Nat) (K : AV → Heap → Option ρ) : XE → St → Option ρ := finK (E84 N) Go.Proofs.Try.f77 [] K

noncomputable def spec_l02Maps_n.k0 {ρ : Type} (N : Nat) (K : AV → Heap → Option ρ) : XE → St → Option ρ := (blockK spec_l02Maps_n.kp 0 0 (seqK (xcode (E84 N) ents spec_l02Maps_n.kp 0 N (cB (cB (cB spec_l02Maps_n.bd))) 0) (spec_l02Maps_n.fin N K)))

theorem spec_l02Maps_n.k0_mix {ρ : Type} (N : Nat) (K : AV → Heap → Option ρ) : mixK (spec_l02Maps_n.fin N K .ret) (spec_l02Maps_n.k0 N K) = (spec_l02Maps_n.k0 N K) := by
  funext e s; cases e <;> rfl

noncomputable def spec_l02Maps_n.st0 (c0 : Nat → Int) (c1 : Nat → Int) (a2 : Nat → Int) (a3 : Nat → Int) : St := ⟨sl 35 [(2, .nils), (3, .sptr [(0, 2), (1, 520)]), (4, .sptr [(2, 2), (3, 520)]), (7, .int .i64 0)], [⟨true, .ints .i64 2 c0⟩, ⟨true, .ints .u8 520 c1⟩, ⟨true, .ints .i64 2 a2⟩, ⟨true, .ints .u8 520 a3⟩]⟩

noncomputable def spec_l02Maps_n.sx0_0 (c0 : Nat → Int) (c1 : Nat → Int) (a2 : Nat → Int) (a3 : Nat → Int) : St := ⟨sl 35 [(3, .sptr [(0, 2), (1, 520)]), (4, .sptr [(2, 2), (3, 520)])], [⟨true, .ints .i64 2 c0⟩, ⟨true, .ints .u8 520 c1⟩, ⟨true, .ints .i64 2 a2⟩, ⟨true, .ints .u8 520 a3⟩]⟩

theorem spec_l02Maps_n.b0_gen {ρ : Type} (N : Nat) (K : AV → Heap → Option ρ) (L0 : St → Option ρ) (kv : XE → St → Option ρ) (c0 : Nat → Int) (c1 : Nat → Int) (a2 : Nat → Int) (a3 : Nat → Int) :
    xcode (E84 N) ents spec_l02Maps_n.kp 0 N (cL (cK (cB (cA (cB (cB spec_l02Maps_n.bd)))))) 0 (spec_l02Maps_n.st0 c0 c1 a2 a3) (roundK spec_l02Maps_n.kp 0 0 L0 (mixK (spec_l02Maps_n.fin N K .ret) kv)) = (spec_l02Maps_n.b0 N (fun d0 => K (.int .i64 (d0)) []) (L0 (spec_l02Maps_n.st0 c0 c1 a2 a3)) (kv (.exit 0) (spec_l02Maps_n.sx0_0 c0 c1 a2 a3))) := by kernel_rfl

theorem spec_l02Maps_n.b0_eq {ρ : Type} (N : Nat) (K : AV → Heap → Option ρ) (L0 : St → Option ρ) (c0 : Nat → Int) (c1 : Nat → Int) (a2 : Nat → Int) (a3 : Nat → Int) :
    xcode (E84 N) ents spec_l02Maps_n.kp 0 N (cL (cK (cB (cA (cB (cB spec_l02Maps_n.bd)))))) 0 (spec_l02Maps_n.st0 c0 c1 a2 a3) (roundK spec_l02Maps_n.kp 0 0 L0 (spec_l02Maps_n.k0 N K)) = (spec_l02Maps_n.b0 N (fun d0 => K (.int .i64 (d0)) []) (L0 (spec_l02Maps_n.st0 c0 c1 a2 a3)) ((spec_l02Maps_n.k0 N K) (.exit 0) (spec_l02Maps_n.sx0_0 c0 c1 a2 a3))) := by
  have h := spec_l02Maps_n.b0_gen N K L0 (spec_l02Maps_n.k0 N K) c0 c1 a2 a3
  rw [spec_l02Maps_n.k0_mix] at h
  exact h

theorem spec_l02Maps_n.a0_0_eq {ρ : Type} (N : Nat) (K : AV → Heap → Option ρ) (c0 : Nat → Int) (c1 : Nat → Int) (a2 : Nat → Int) (a3 : Nat → Int) :
    (spec_l02Maps_n.k0 N K) (.exit 0) (spec_l02Maps_n.sx0_0 c0 c1 a2 a3) = (spec_l02Maps_n.a0_0 N (fun d0 => K (.int .i64 (d0)) []) c0 a2) := by kernel_rfl

theorem spec_l02Maps_n.l0_eq {ρ : Type} (N : Nat) (K : AV → Heap → Option ρ) (c0 : Nat → Int) (c1 : Nat → Int) (a2 : Nat → Int) (a3 : Nat → Int) :
    ∀ (m : Nat), xloop (xcode (E84 N) ents spec_l02Maps_n.kp 0 N (cL (cK (cB (cA (cB (cB spec_l02Maps_n.bd)))))) 0) spec_l02Maps_n.kp 0 0 m (spec_l02Maps_n.st0 c0 c1 a2 a3) (spec_l02Maps_n.k0 N K) = (spec_l02Maps_n.l0 N (fun d0 => K (.int .i64 (d0)) []) ((spec_l02Maps_n.k0 N K) (.exit 0) (spec_l02Maps_n.sx0_0 c0 c1 a2 a3)) m) := by
  intro m
  induction m with
  | zero => intros; rfl
  | succ m ih =>
    refine (spec_l02Maps_n.b0_eq N K (fun s => xloop (xcode (E84 N) ents spec_l02Maps_n.kp 0 N (cL (cK (cB (cA (cB (cB spec_l02Maps_n.bd)))))) 0) spec_l02Maps_n.kp 0 0 m s (spec_l02Maps_n.k0 N K)) c0 c1 a2 a3).trans ?_
    simp only [ih]
    kernel_rfl

theorem spec_l02Maps_n.s_eq {ρ : Type} (N : Nat) (K : AV → Heap → Option ρ) (c0 : Nat → Int) (c1 : Nat → Int) (a2 : Nat → Int) (a3 : Nat → Int) :
    xbody (E84 N) ents spec_l02Maps_n.kp N Go.Proofs.Try.f77 spec_l02Maps_n.bd [.agg [⟨.i64, 2, c0⟩, ⟨.u8, 520, c1⟩], .agg [⟨.i64, 2, a2⟩, ⟨.u8, 520, a3⟩], .nils] [] K = (spec_l02Maps_n.s N (fun d0 => K (.int .i64 (d0)) []) (xloop (xcode (E84 N) ents spec_l02Maps_n.kp 0 N (cL (cK (cB (cA (cB (cB spec_l02Maps_n.bd)))))) 0) spec_l02Maps_n.kp 0 0 N (spec_l02Maps_n.st0 c0 c1 a2 a3) (spec_l02Maps_n.k0 N K)) c0 c1 a2 a3) := by kernel_rfl

theorem spec_l02Maps_n.eq {ρ : Type} (N : Nat) (K : AV → Heap → Option ρ) (c0 : Nat → Int) (c1 : Nat → Int) (a2 : Nat → Int) (a3 : Nat → Int) :
    xbody (E84 N) ents spec_l02Maps_n.kp N Go.Proofs.Try.f77 spec_l02Maps_n.bd [.agg [⟨.i64, 2, c0⟩, ⟨.u8, 520, c1⟩], .agg [⟨.i64, 2, a2⟩, ⟨.u8, 520, a3⟩], .nils] [] K = (spec_l02Maps_n N (fun d0 => K (.int .i64 (d0)) []) c0 c1 a2 a3) := by
  refine (spec_l02Maps_n.s_eq N K c0 c1 a2 a3).trans ?_
  simp only [spec_l02Maps_n.l0_eq, spec_l02Maps_n.a0_0_eq]
  kernel_rfl

noncomputable def spec_l02Maps_n.en (N : Nat) (ρ : Type) : List AV → Heap → (AV → Heap → Option ρ) → Option ρ
  | [.agg [⟨.i64, 2, c0⟩, ⟨.u8, 520, c1⟩], .agg [⟨.i64, 2, a2⟩, ⟨.u8, 520, a3⟩], .nils], [], K => (spec_l02Maps_n N (fun d0 => K (.int .i64 (d0)) []) c0 c1 a2 a3)
  | _, _, _ => none

theorem spec_l02Maps_n.en_ok (N : Nat) (hE : EnvOk (E84 N) ents) (ρ : Type) (args : List AV) (sh : Heap) (K : AV → Heap → Option ρ) (r : ρ) (h : spec_l02Maps_n.en N ρ args sh K = some r) : ∃ v sh', K v sh' = some r ∧ FnOk (E84 N).P 77 args sh v sh' := by
  unfold spec_l02Maps_n.en at h
  split at h
  · exact fn_ok hE (kp := spec_l02Maps_n.kp) (N := N) Go.Proofs.Try.func77 (c := spec_l02Maps_n.bd) (by kernel_rfl) ((spec_l02Maps_n.eq N _ _ _ _ _).trans h)
  · cases h

noncomputable def E85 (N : Nat) : Env := (E84 N).add 77 (spec_l02Maps_n.en N)

theorem E85_ok (N : Nat) : EnvOk (E85 N) ents := Env.add_ok (E84_ok N) (spec_l02Maps_n.en_ok N (E84_ok N))
end Go.Proofs.Ythecjjnieojjoaa.H
