/- The program computes these functions. -/
import Derived.Test.YtacdnmdfoimjcaaHL0
namespace Go.Proofs.Ytacdnmdfoimjcaa.H
set_option linter.unusedVariables false
set_option linter.unusedSimpArgs false
open Go Go.RowKit Go.Proofs.Ytacdnmdfoimjcaa.Hx
set_option linter.unusedVariables false
set_option maxRecDepth 100000
noncomputable def spec_l02Counits.kp : Keeps := ⟨[(0, [1, 3], 2), (2, [1, 3, 4, 5, 6], 4), (4, [1, 3, 4, 5, 6, 7, 8], 4)], [(0, [], 2), (2, [1, 3, 4, 5], 4), (4, [1, 3, 4, 5, 6, 7], 4)]⟩

noncomputable def spec_l02Counits.bd : Code := bodyOf Go.Proofs.Try.f112

noncomputable def spec_l02Counits.fin {ρ : Type} (N : Nat) (K : AV → Heap → Option ρ) : XE → St → Option ρ := finK (E24 N) Go.Proofs.Try.f112 [] K

noncomputable def spec_l02Counits.k0 {ρ : Type} (N : Nat) (K : AV → Heap → Option ρ) : XE → St → Option ρ := (blockK spec_l02Counits.kp 0 0 (seqK (xcode (E24 N) ents spec_l02Counits.kp 0 N (cB (cB spec_l02Counits.bd)) 0) (spec_l02Counits.fin N K)))

theorem spec_l02Counits.k0_mix {ρ : Type} (N : Nat) (K : AV → Heap → Option ρ) : mixK (spec_l02Counits.fin N K .ret) (spec_l02Counits.k0 N K) = (spec_l02Counits.k0 N K) := by
  funext e s; cases e <;> rfl

noncomputable def spec_l02Counits.st0 (c0 : Nat → Int) (c1 : Nat → Int) (i2 : Int) : St := ⟨sl 77 [(1, .sptr [(0, 2), (1, 520)]), (3, .int .i64 (i2))], [⟨true, .ints .i64 2 c0⟩, ⟨true, .ints .u8 520 c1⟩]⟩

noncomputable def spec_l02Counits.sx0_0 (c0 : Nat → Int) (c1 : Nat → Int) : St := ⟨sl 77 [], [⟨true, .ints .i64 2 c0⟩, ⟨true, .ints .u8 520 c1⟩]⟩

noncomputable def spec_l02Counits.k1g {ρ : Type} (N : Nat) (L0 : St → Option ρ) (kv : XE → St → Option ρ) : XE → St → Option ρ := (blockK spec_l02Counits.kp 0 2 (seqK (xcode (E24 N) ents spec_l02Counits.kp 0 N (cB (cB (cK (cA (cB (cL (cK (cB (cA (cB spec_l02Counits.bd)))))))))) 1) (blockK spec_l02Counits.kp 0 1 (seqK (xcode (E24 N) ents spec_l02Counits.kp 0 N (cB (cB (cL (cK (cB (cA (cB spec_l02Counits.bd))))))) 0) (roundK spec_l02Counits.kp 0 0 L0 kv)))))

theorem spec_l02Counits.k1_mix {ρ : Type} (N : Nat) (K : AV → Heap → Option ρ) (L0 : St → Option ρ) : mixK (spec_l02Counits.fin N K .ret) (spec_l02Counits.k1g N L0 (spec_l02Counits.k0 N K)) = (spec_l02Counits.k1g N L0 (spec_l02Counits.k0 N K)) := by
  funext e s; cases e <;> rfl

noncomputable def spec_l02Counits.st1 (c0 : Nat → Int) (c1 : Nat → Int) (i2 : Int) (j3 : Int) (g4 : Nat → Int) (g5 : Nat → Int) : St := ⟨sl 77 [(1, .sptr [(0, 2), (1, 520)]), (3, .int .i64 (i2)), (4, .sptr [(2, 8)]), (5, .sptr [(3, 8)]), (6, .int .i64 (j3))], [⟨true, .ints .i64 2 c0⟩, ⟨true, .ints .u8 520 c1⟩, ⟨true, .ints .u8 8 g4⟩, ⟨true, .ints .u8 8 g5⟩]⟩

noncomputable def spec_l02Counits.sx1_0 (c0 : Nat → Int) (c1 : Nat → Int) (i2 : Int) (o11 : Nat → Int) (o12 : Nat → Int) : St := ⟨sl 77 [(1, .sptr [(0, 2), (1, 520)]), (3, .int .i64 (i2)), (4, .sptr [(2, 8)]), (5, .sptr [(3, 8)])], [⟨true, .ints .i64 2 c0⟩, ⟨true, .ints .u8 520 c1⟩, ⟨true, .ints .u8 8 o11⟩, ⟨true, .ints .u8 8 o12⟩]⟩

noncomputable def spec_l02Counits.k2g {ρ : Type} (N : Nat) (L1 : St → Option ρ) (kv : XE → St → Option ρ) : XE → St → Option ρ := (blockK spec_l02Counits.kp 0 4 (seqK (xcode (E24 N) ents spec_l02Counits.kp 0 N (cB (cB (cB (cK (cA (cB (cL (cK (cB (cA (cB (cK (cA (cB (cL (cK (cB (cA (cB spec_l02Counits.bd))))))))))))))))))) 3) (blockK spec_l02Counits.kp 0 3 (seqK (xcode (E24 N) ents spec_l02Counits.kp 0 N (cB (cB (cL (cK (cB (cA (cB (cK (cA (cB (cL (cK (cB (cA (cB spec_l02Counits.bd))))))))))))))) 2) (roundK spec_l02Counits.kp 0 2 L1 kv)))))

theorem spec_l02Counits.k2_mix {ρ : Type} (N : Nat) (K : AV → Heap → Option ρ) (L0 : St → Option ρ) (L1 : St → Option ρ) : mixK (spec_l02Counits.fin N K .ret) (spec_l02Counits.k2g N L1 (spec_l02Counits.k1g N L0 (spec_l02Counits.k0 N K))) = (spec_l02Counits.k2g N L1 (spec_l02Counits.k1g N L0 (spec_l02Counits.k0 N K))) := by
  funext e s; cases e <;> rfl

noncomputable def spec_l02Counits.st2 (c0 : Nat → Int) (c1 : Nat → Int) (i2 : Int) (j3 : Int) (g5 : Nat → Int) (r6 : Nat → Int) (sum7 : Int) (k8 : Int) : St := ⟨sl 77 [(1, .sptr [(0, 2), (1, 520)]), (3, .int .i64 (i2)), (4, .sptr [(2, 8)]), (5, .sptr [(3, 8)]), (6, .int .i64 (j3)), (7, .int .i64 (sum7)), (8, .int .i64 (k8))], [⟨true, .ints .i64 2 c0⟩, ⟨true, .ints .u8 520 c1⟩, ⟨true, .ints .u8 8 r6⟩, ⟨true, .ints .u8 8 g5⟩]⟩

noncomputable def spec_l02Counits.sx2_0 (c0 : Nat → Int) (c1 : Nat → Int) (i2 : Int) (j3 : Int) (g5 : Nat → Int) (r6 : Nat → Int) (o9 : Int) : St := ⟨sl 77 [(1, .sptr [(0, 2), (1, 520)]), (3, .int .i64 (i2)), (4, .sptr [(2, 8)]), (5, .sptr [(3, 8)]), (6, .int .i64 (j3)), (7, .int .i64 (o9))], [⟨true, .ints .i64 2 c0⟩, ⟨true, .ints .u8 520 c1⟩, ⟨true, .ints .u8 8 r6⟩, ⟨true, .ints .u8 8 g5⟩]⟩

theorem spec_l02Counits.b2_gen {ρ : Type} (N : Nat) (K : AV → Heap → Option ρ) (L2 : St → Option ρ) (kv : XE → St → Option ρ) (c0 : Nat → Int) (c1 : Nat → Int) (i2 : Int) (j3 : Int) (g5 : Nat → Int) (r6 : Nat → Int) (sum7 : Int) (k8 : Int) :
    xcode (E24 N) ents spec_l02Counits.kp 0 N (cL (cK (cB (cA (cB (cB (cK (cA (cB (cL (cK (cB (cA (cB (cK (cA (cB (cL (cK (cB (cA (cB spec_l02Counits.bd)))))))))))))))))))))) 4 (spec_l02Counits.st2 c0 c1 i2 j3 g5 r6 sum7 k8) (roundK spec_l02Counits.kp 0 4 L2 (mixK (spec_l02Counits.fin N K .ret) kv)) = (spec_l02Counits.b2 N (fun d0 => K (.bool (d0)) []) (fun sum7 k8 => L2 (spec_l02Counits.st2 c0 c1 i2 j3 g5 r6 sum7 k8)) (fun o9 => kv (.exit 4) (spec_l02Counits.sx2_0 c0 c1 i2 j3 g5 r6 o9)) c0 c1 i2 j3 sum7 k8) := by kernel_rfl

theorem spec_l02Counits.b2_eq {ρ : Type} (N : Nat) (K : AV → Heap → Option ρ) (L0 : St → Option ρ) (L1 : St → Option ρ) (L2 : St → Option ρ) (c0 : Nat → Int) (c1 : Nat → Int) (i2 : Int) (j3 : Int) (g5 : Nat → Int) (r6 : Nat → Int) (sum7 : Int) (k8 : Int) :
    xcode (E24 N) ents spec_l02Counits.kp 0 N (cL (cK (cB (cA (cB (cB (cK (cA (cB (cL (cK (cB (cA (cB (cK (cA (cB (cL (cK (cB (cA (cB spec_l02Counits.bd)))))))))))))))))))))) 4 (spec_l02Counits.st2 c0 c1 i2 j3 g5 r6 sum7 k8) (roundK spec_l02Counits.kp 0 4 L2 (spec_l02Counits.k2g N L1 (spec_l02Counits.k1g N L0 (spec_l02Counits.k0 N K)))) = (spec_l02Counits.b2 N (fun d0 => K (.bool (d0)) []) (fun sum7 k8 => L2 (spec_l02Counits.st2 c0 c1 i2 j3 g5 r6 sum7 k8)) (fun o9 => (spec_l02Counits.k2g N L1 (spec_l02Counits.k1g N L0 (spec_l02Counits.k0 N K))) (.exit 4) (spec_l02Counits.sx2_0 c0 c1 i2 j3 g5 r6 o9)) c0 c1 i2 j3 sum7 k8) := by
  have h := spec_l02Counits.b2_gen N K L2 (spec_l02Counits.k2g N L1 (spec_l02Counits.k1g N L0 (spec_l02Counits.k0 N K))) c0 c1 i2 j3 g5 r6 sum7 k8
  rw [spec_l02Counits.k2_mix] at h
  exact h

theorem spec_l02Counits.a2_0_gen {ρ : Type} (N : Nat) (K : AV → Heap → Option ρ) (L1 : St → Option ρ) (kv : XE → St → Option ρ) (c0 : Nat → Int) (c1 : Nat → Int) (i2 : Int) (j3 : Int) (g5 : Nat → Int) (r6 : Nat → Int) (o9 : Int) :
    (spec_l02Counits.k2g N L1 (mixK (spec_l02Counits.fin N K .ret) kv)) (.exit 4) (spec_l02Counits.sx2_0 c0 c1 i2 j3 g5 r6 o9) = (spec_l02Counits.a2_0 N (fun d0 => K (.bool (d0)) []) (fun j3 g4 g5 => L1 (spec_l02Counits.st1 c0 c1 i2 j3 g4 g5)) (fun o11 o12 => kv (.exit 2) (spec_l02Counits.sx1_0 c0 c1 i2 o11 o12)) c0 j3 g5 r6 o9) := by kernel_rfl

theorem spec_l02Counits.a2_0_eq {ρ : Type} (N : Nat) (K : AV → Heap → Option ρ) (L0 : St → Option ρ) (L1 : St → Option ρ) (c0 : Nat → Int) (c1 : Nat → Int) (i2 : Int) (j3 : Int) (g5 : Nat → Int) (r6 : Nat → Int) (o9 : Int) :
    (spec_l02Counits.k2g N L1 (spec_l02Counits.k1g N L0 (spec_l02Counits.k0 N K))) (.exit 4) (spec_l02Counits.sx2_0 c0 c1 i2 j3 g5 r6 o9) = (spec_l02Counits.a2_0 N (fun d0 => K (.bool (d0)) []) (fun j3 g4 g5 => L1 (spec_l02Counits.st1 c0 c1 i2 j3 g4 g5)) (fun o11 o12 => (spec_l02Counits.k1g N L0 (spec_l02Counits.k0 N K)) (.exit 2) (spec_l02Counits.sx1_0 c0 c1 i2 o11 o12)) c0 j3 g5 r6 o9) := by
  have h := spec_l02Counits.a2_0_gen N K L1 (spec_l02Counits.k1g N L0 (spec_l02Counits.k0 N K)) c0 c1 i2 j3 g5 r6 o9
  rw [spec_l02Counits.k1_mix] at h
  exact h

theorem spec_l02Counits.b1_gen {ρ : Type} (N : Nat) (K : AV → Heap → Option ρ) (L1 : St → Option ρ) (kv : XE → St → Option ρ) (c0 : Nat → Int) (c1 : Nat → Int) (i2 : Int) (j3 : Int) (g4 : Nat → Int) (g5 : Nat → Int) :
    xcode (E24 N) ents spec_l02Counits.kp 0 N (cL (cK (cB (cA (cB (cK (cA (cB (cL (cK (cB (cA (cB spec_l02Counits.bd))))))))))))) 2 (spec_l02Counits.st1 c0 c1 i2 j3 g4 g5) (roundK spec_l02Counits.kp 0 2 L1 (mixK (spec_l02Counits.fin N K .ret) kv)) = (spec_l02Counits.b1 N (fun d0 => K (.bool (d0)) []) (fun r6 sum7 k8 => xloop (xcode (E24 N) ents spec_l02Counits.kp 0 N (cL (cK (cB (cA (cB (cB (cK (cA (cB (cL (cK (cB (cA (cB (cK (cA (cB (cL (cK (cB (cA (cB spec_l02Counits.bd)))))))))))))))))))))) 4) spec_l02Counits.kp 0 4 N (spec_l02Counits.st2 c0 c1 i2 j3 g5 r6 sum7 k8) (spec_l02Counits.k2g N L1 (mixK (spec_l02Counits.fin N K .ret) kv))) (fun j3 g4 g5 => L1 (spec_l02Counits.st1 c0 c1 i2 j3 g4 g5)) (fun o11 o12 => kv (.exit 2) (spec_l02Counits.sx1_0 c0 c1 i2 o11 o12)) c0 c1 i2 j3 g4 g5) := by kernel_rfl

theorem spec_l02Counits.b1_eq {ρ : Type} (N : Nat) (K : AV → Heap → Option ρ) (L0 : St → Option ρ) (L1 : St → Option ρ) (c0 : Nat → Int) (c1 : Nat → Int) (i2 : Int) (j3 : Int) (g4 : Nat → Int) (g5 : Nat → Int) :
    xcode (E24 N) ents spec_l02Counits.kp 0 N (cL (cK (cB (cA (cB (cK (cA (cB (cL (cK (cB (cA (cB spec_l02Counits.bd))))))))))))) 2 (spec_l02Counits.st1 c0 c1 i2 j3 g4 g5) (roundK spec_l02Counits.kp 0 2 L1 (spec_l02Counits.k1g N L0 (spec_l02Counits.k0 N K))) = (spec_l02Counits.b1 N (fun d0 => K (.bool (d0)) []) (fun r6 sum7 k8 => xloop (xcode (E24 N) ents spec_l02Counits.kp 0 N (cL (cK (cB (cA (cB (cB (cK (cA (cB (cL (cK (cB (cA (cB (cK (cA (cB (cL (cK (cB (cA (cB spec_l02Counits.bd)))))))))))))))))))))) 4) spec_l02Counits.kp 0 4 N (spec_l02Counits.st2 c0 c1 i2 j3 g5 r6 sum7 k8) (spec_l02Counits.k2g N L1 (spec_l02Counits.k1g N L0 (spec_l02Counits.k0 N K)))) (fun j3 g4 g5 => L1 (spec_l02Counits.st1 c0 c1 i2 j3 g4 g5)) (fun o11 o12 => (spec_l02Counits.k1g N L0 (spec_l02Counits.k0 N K)) (.exit 2) (spec_l02Counits.sx1_0 c0 c1 i2 o11 o12)) c0 c1 i2 j3 g4 g5) := by
  have h := spec_l02Counits.b1_gen N K L1 (spec_l02Counits.k1g N L0 (spec_l02Counits.k0 N K)) c0 c1 i2 j3 g4 g5
  rw [spec_l02Counits.k1_mix] at h
  exact h

theorem spec_l02Counits.a1_0_gen {ρ : Type} (N : Nat) (K : AV → Heap → Option ρ) (L0 : St → Option ρ) (kv : XE → St → Option ρ) (c0 : Nat → Int) (c1 : Nat → Int) (i2 : Int) (o11 : Nat → Int) (o12 : Nat → Int) :
    (spec_l02Counits.k1g N L0 (mixK (spec_l02Counits.fin N K .ret) kv)) (.exit 2) (spec_l02Counits.sx1_0 c0 c1 i2 o11 o12) = (spec_l02Counits.a1_0 N (fun d0 => K (.bool (d0)) []) (fun i2 => L0 (spec_l02Counits.st0 c0 c1 i2)) (kv (.exit 0) (spec_l02Counits.sx0_0 c0 c1)) i2 o11 o12) := by kernel_rfl

theorem spec_l02Counits.a1_0_eq {ρ : Type} (N : Nat) (K : AV → Heap → Option ρ) (L0 : St → Option ρ) (c0 : Nat → Int) (c1 : Nat → Int) (i2 : Int) (o11 : Nat → Int) (o12 : Nat → Int) :
    (spec_l02Counits.k1g N L0 (spec_l02Counits.k0 N K)) (.exit 2) (spec_l02Counits.sx1_0 c0 c1 i2 o11 o12) = (spec_l02Counits.a1_0 N (fun d0 => K (.bool (d0)) []) (fun i2 => L0 (spec_l02Counits.st0 c0 c1 i2)) ((spec_l02Counits.k0 N K) (.exit 0) (spec_l02Counits.sx0_0 c0 c1)) i2 o11 o12) := by
  have h := spec_l02Counits.a1_0_gen N K L0 (spec_l02Counits.k0 N K) c0 c1 i2 o11 o12
  rw [spec_l02Counits.k0_mix] at h
  exact h

theorem spec_l02Counits.b0_gen {ρ : Type} (N : Nat) (K : AV → Heap → Option ρ) (L0 : St → Option ρ) (kv : XE → St → Option ρ) (c0 : Nat → Int) (c1 : Nat → Int) (i2 : Int) :
    xcode (E24 N) ents spec_l02Counits.kp 0 N (cL (cK (cB (cA (cB spec_l02Counits.bd))))) 0 (spec_l02Counits.st0 c0 c1 i2) (roundK spec_l02Counits.kp 0 0 L0 (mixK (spec_l02Counits.fin N K .ret) kv)) = (spec_l02Counits.b0 N (fun d0 => K (.bool (d0)) []) (fun j3 g4 g5 => xloop (xcode (E24 N) ents spec_l02Counits.kp 0 N (cL (cK (cB (cA (cB (cK (cA (cB (cL (cK (cB (cA (cB spec_l02Counits.bd))))))))))))) 2) spec_l02Counits.kp 0 2 N (spec_l02Counits.st1 c0 c1 i2 j3 g4 g5) (spec_l02Counits.k1g N L0 (mixK (spec_l02Counits.fin N K .ret) kv))) (fun i2 => L0 (spec_l02Counits.st0 c0 c1 i2)) (kv (.exit 0) (spec_l02Counits.sx0_0 c0 c1)) c0 i2) := by kernel_rfl

theorem spec_l02Counits.b0_eq {ρ : Type} (N : Nat) (K : AV → Heap → Option ρ) (L0 : St → Option ρ) (c0 : Nat → Int) (c1 : Nat → Int) (i2 : Int) :
    xcode (E24 N) ents spec_l02Counits.kp 0 N (cL (cK (cB (cA (cB spec_l02Counits.bd))))) 0 (spec_l02Counits.st0 c0 c1 i2) (roundK spec_l02Counits.kp 0 0 L0 (spec_l02Counits.k0 N K)) = (spec_l02Counits.b0 N (fun d0 => K (.bool (d0)) []) (fun j3 g4 g5 => xloop (xcode (E24 N) ents spec_l02Counits.kp 0 N (cL (cK (cB (cA (cB (cK (cA (cB (cL (cK (cB (cA (cB spec_l02Counits.bd))))))))))))) 2) spec_l02Counits.kp 0 2 N (spec_l02Counits.st1 c0 c1 i2 j3 g4 g5) (spec_l02Counits.k1g N L0 (spec_l02Counits.k0 N K))) (fun i2 => L0 (spec_l02Counits.st0 c0 c1 i2)) ((spec_l02Counits.k0 N K) (.exit 0) (spec_l02Counits.sx0_0 c0 c1)) c0 i2) := by
  have h := spec_l02Counits.b0_gen N K L0 (spec_l02Counits.k0 N K) c0 c1 i2
  rw [spec_l02Counits.k0_mix] at h
  exact h

theorem spec_l02Counits.a0_0_eq {ρ : Type} (N : Nat) (K : AV → Heap → Option ρ) (c0 : Nat → Int) (c1 : Nat → Int) :
    (spec_l02Counits.k0 N K) (.exit 0) (spec_l02Counits.sx0_0 c0 c1) = (spec_l02Counits.a0_0 N (fun d0 => K (.bool (d0)) [])) := by kernel_rfl

theorem spec_l02Counits.l2_eq {ρ : Type} (N : Nat) (K : AV → Heap → Option ρ) (L0 : St → Option ρ) (L1 : St → Option ρ) (c0 : Nat → Int) (c1 : Nat → Int) (i2 : Int) (j3 : Int) (g5 : Nat → Int) (r6 : Nat → Int) :
    ∀ (m : Nat) (sum7 : Int) (k8 : Int), xloop (xcode (E24 N) ents spec_l02Counits.kp 0 N (cL (cK (cB (cA (cB (cB (cK (cA (cB (cL (cK (cB (cA (cB (cK (cA (cB (cL (cK (cB (cA (cB spec_l02Counits.bd)))))))))))))))))))))) 4) spec_l02Counits.kp 0 4 m (spec_l02Counits.st2 c0 c1 i2 j3 g5 r6 sum7 k8) (spec_l02Counits.k2g N L1 (spec_l02Counits.k1g N L0 (spec_l02Counits.k0 N K))) = (spec_l02Counits.l2 N (fun d0 => K (.bool (d0)) []) c0 c1 i2 j3 (fun o9 => (spec_l02Counits.k2g N L1 (spec_l02Counits.k1g N L0 (spec_l02Counits.k0 N K))) (.exit 4) (spec_l02Counits.sx2_0 c0 c1 i2 j3 g5 r6 o9)) m sum7 k8) := by
  intro m
  induction m with
  | zero => intros; rfl
  | succ m ih =>
    intro sum7 k8
    refine (spec_l02Counits.b2_eq N K L0 L1 (fun s => xloop (xcode (E24 N) ents spec_l02Counits.kp 0 N (cL (cK (cB (cA (cB (cB (cK (cA (cB (cL (cK (cB (cA (cB (cK (cA (cB (cL (cK (cB (cA (cB spec_l02Counits.bd)))))))))))))))))))))) 4) spec_l02Counits.kp 0 4 m s (spec_l02Counits.k2g N L1 (spec_l02Counits.k1g N L0 (spec_l02Counits.k0 N K)))) c0 c1 i2 j3 g5 r6 sum7 k8).trans ?_
    simp only [ih]
    kernel_rfl

theorem spec_l02Counits.l1_eq {ρ : Type} (N : Nat) (K : AV → Heap → Option ρ) (L0 : St → Option ρ) (c0 : Nat → Int) (c1 : Nat → Int) (i2 : Int) :
    ∀ (m : Nat) (j3 : Int) (g4 : Nat → Int) (g5 : Nat → Int), xloop (xcode (E24 N) ents spec_l02Counits.kp 0 N (cL (cK (cB (cA (cB (cK (cA (cB (cL (cK (cB (cA (cB spec_l02Counits.bd))))))))))))) 2) spec_l02Counits.kp 0 2 m (spec_l02Counits.st1 c0 c1 i2 j3 g4 g5) (spec_l02Counits.k1g N L0 (spec_l02Counits.k0 N K)) = (spec_l02Counits.l1 N (fun d0 => K (.bool (d0)) []) c0 c1 i2 (fun o11 o12 => (spec_l02Counits.k1g N L0 (spec_l02Counits.k0 N K)) (.exit 2) (spec_l02Counits.sx1_0 c0 c1 i2 o11 o12)) m j3 g4 g5) := by
  intro m
  induction m with
  | zero => intros; rfl
  | succ m ih =>
    intro j3 g4 g5
    refine (spec_l02Counits.b1_eq N K L0 (fun s => xloop (xcode (E24 N) ents spec_l02Counits.kp 0 N (cL (cK (cB (cA (cB (cK (cA (cB (cL (cK (cB (cA (cB spec_l02Counits.bd))))))))))))) 2) spec_l02Counits.kp 0 2 m s (spec_l02Counits.k1g N L0 (spec_l02Counits.k0 N K))) c0 c1 i2 j3 g4 g5).trans ?_
    simp only [ih, spec_l02Counits.l2_eq, spec_l02Counits.a2_0_eq]
    kernel_rfl

theorem spec_l02Counits.l0_eq {ρ : Type} (N : Nat) (K : AV → Heap → Option ρ) (c0 : Nat → Int) (c1 : Nat → Int) :
    ∀ (m : Nat) (i2 : Int), xloop (xcode (E24 N) ents spec_l02Counits.kp 0 N (cL (cK (cB (cA (cB spec_l02Counits.bd))))) 0) spec_l02Counits.kp 0 0 m (spec_l02Counits.st0 c0 c1 i2) (spec_l02Counits.k0 N K) = (spec_l02Counits.l0 N (fun d0 => K (.bool (d0)) []) c0 c1 ((spec_l02Counits.k0 N K) (.exit 0) (spec_l02Counits.sx0_0 c0 c1)) m i2) := by
  intro m
  induction m with
  | zero => intros; rfl
  | succ m ih =>
    intro i2
    refine (spec_l02Counits.b0_eq N K (fun s => xloop (xcode (E24 N) ents spec_l02Counits.kp 0 N (cL (cK (cB (cA (cB spec_l02Counits.bd))))) 0) spec_l02Counits.kp 0 0 m s (spec_l02Counits.k0 N K)) c0 c1 i2).trans ?_
    simp only [ih, spec_l02Counits.l1_eq, spec_l02Counits.a1_0_eq]
    kernel_rfl

theorem spec_l02Counits.s_eq {ρ : Type} (N : Nat) (K : AV → Heap → Option ρ) (c0 : Nat → Int) (c1 : Nat → Int) :
    xbody (E24 N) ents spec_l02Counits.kp N Go.Proofs.Try.f112 spec_l02Counits.bd [.agg [⟨.i64, 2, c0⟩, ⟨.u8, 520, c1⟩]] [] K = (spec_l02Counits.s N (fun d0 => K (.bool (d0)) []) (fun i2 => xloop (xcode (E24 N) ents spec_l02Counits.kp 0 N (cL (cK (cB (cA (cB spec_l02Counits.bd))))) 0) spec_l02Counits.kp 0 0 N (spec_l02Counits.st0 c0 c1 i2) (spec_l02Counits.k0 N K))) := by kernel_rfl

theorem spec_l02Counits.eq {ρ : Type} (N : Nat) (K : AV → Heap → Option ρ) (c0 : Nat → Int) (c1 : Nat → Int) :
    xbody (E24 N) ents spec_l02Counits.kp N Go.Proofs.Try.f112 spec_l02Counits.bd [.agg [⟨.i64, 2, c0⟩, ⟨.u8, 520, c1⟩]] [] K = (spec_l02Counits N (fun d0 => K (.bool (d0)) []) c0 c1) := by
  refine (spec_l02Counits.s_eq N K c0 c1).trans ?_
  simp only [spec_l02Counits.l0_eq, spec_l02Counits.a0_0_eq]
  kernel_rfl

noncomputable def spec_l02Counits.en (N : Nat) (ρ : Type) : List AV → Heap → (AV → Heap → Option ρ) → Option ρ
  | [.agg [⟨.i64, 2, c0⟩, ⟨.u8, 520, c1⟩]], [], K => (spec_l02Counits N (fun d0 => K (.bool (d0)) []) c0 c1)
  | _, _, _ => none

theorem spec_l02Counits.en_ok (N : Nat) (hE : EnvOk (E24 N) ents) (ρ : Type) (args : List AV) (sh : Heap) (K : AV → Heap → Option ρ) (r : ρ) (h : spec_l02Counits.en N ρ args sh K = some r) : ∃ v sh', K v sh' = some r ∧ FnOk (E24 N).P 112 args sh v sh' := by
  unfold spec_l02Counits.en at h
  split at h
  · exact fn_ok hE (kp := spec_l02Counits.kp) (N := N) Go.Proofs.Try.func112 (c := spec_l02Counits.bd) (by kernel_rfl) ((spec_l02Counits.eq N _ _ _).trans h)
  · cases h

noncomputable def E25 (N : Nat) : Env := (E24 N).add 112 (spec_l02Counits.en N)

theorem E25_ok (N : Nat) : EnvOk (E25 N) ents := Env.add_ok (E24_ok N) (spec_l02Counits.en_ok N (E24_ok N))

noncomputable def spec_l02Is.kp : Keeps := ⟨[], []⟩

noncomputable def spec_l02Is.bd : Code := bodyOf Go.Proofs.Try.f91

noncomputable def spec_l02Is.fin {ρ : Type} (N : Nat) (K : AV → Heap → Option ρ) : XE → St → Option ρ := finK (E25 N) Go.Proofs.Try.f91 [] K

theorem spec_l02Is.eq {ρ : Type} (N : Nat) (K : AV → Heap → Option ρ) (c0 : Nat → Int) (c1 : Nat → Int) :
    xbody (E25 N) ents spec_l02Is.kp N Go.Proofs.Try.f91 spec_l02Is.bd [.agg [⟨.i64, 2, c0⟩, ⟨.u8, 520, c1⟩]] [] K = (spec_l02Is N (fun d0 => K (.bool (d0)) []) c0 c1) := by kernel_rfl

noncomputable def spec_l02Is.en (N : Nat) (ρ : Type) : List AV → Heap → (AV → Heap → Option ρ) → Option ρ
  | [.agg [⟨.i64, 2, c0⟩, ⟨.u8, 520, c1⟩]], [], K => (spec_l02Is N (fun d0 => K (.bool (d0)) []) c0 c1)
  | _, _, _ => none

theorem spec_l02Is.en_ok (N : Nat) (hE : EnvOk (E25 N) ents) (ρ : Type) (args : List AV) (sh : Heap) (K : AV → Heap → Option ρ) (r : ρ) (h : spec_l02Is.en N ρ args sh K = some r) : ∃ v sh', K v sh' = some r ∧ FnOk (E25 N).P 91 args sh v sh' := by
  unfold spec_l02Is.en at h
  split at h
  · exact fn_ok hE (kp := spec_l02Is.kp) (N := N) Go.Proofs.Try.func91 (c := spec_l02Is.bd) (by kernel_rfl) ((spec_l02Is.eq N _ _ _).trans h)
  · cases h

noncomputable def E26 (N : Nat) : Env := (E25 N).add 91 (spec_l02Is.en N)

theorem E26_ok (N : Nat) : EnvOk (E26 N) ents := Env.add_ok (E25_ok N) (spec_l02Is.en_ok N (E25_ok N))

noncomputable def spec_l03Coproduct.kp : Keeps := ⟨[(0, [2, 3, 4, 5, 6], 5), (2, [2, 3, 4, 5, 6, 7], 5)], [(0, [4, 5], 5), (2, [2, 3, 4, 5, 6], 5)]⟩

noncomputable def spec_l03Coproduct.bd : Code := bodyOf Go.Proofs.Try.f48

noncomputable def spec_l03Coproduct.fin {ρ : Type} (N : Nat) (K : AV → Heap → Option ρ) : XE → St → Option ρ := finK (E26 N) Go.Proofs.Try.f48 [] K

noncomputable def spec_l03Coproduct.k0 {ρ : Type} (N : Nat) (K : AV → Heap → Option ρ) : XE → St → Option ρ := (blockK spec_l03Coproduct.kp 0 0 (seqK (xcode (E26 N) ents spec_l03Coproduct.kp 0 N (cB (cB (cB spec_l03Coproduct.bd))) 0) (spec_l03Coproduct.fin N K)))

theorem spec_l03Coproduct.k0_mix {ρ : Type} (N : Nat) (K : AV → Heap → Option ρ) : mixK (spec_l03Coproduct.fin N K .ret) (spec_l03Coproduct.k0 N K) = (spec_l03Coproduct.k0 N K) := by
  funext e s; cases e <;> rfl

noncomputable def spec_l03Coproduct.st0 (h0 : Nat → Int) (h1 : Nat → Int) (v2 : Nat → Int) (i3 : Int) (g4 : Nat → Int) : St := ⟨sl 46 [(2, .sptr [(0, 2), (1, 1104)]), (3, .sptr [(2, 8)]), (4, .sptr [(3, 64)]), (5, .sptr [(4, 64)]), (6, .int .i64 (i3))], [⟨true, .ints .i64 2 h0⟩, ⟨true, .ints .u8 1104 h1⟩, ⟨true, .ints .u8 8 v2⟩, ⟨true, .ints .u8 64 (fun _ => 0)⟩, ⟨true, .ints .u8 64 g4⟩]⟩

noncomputable def spec_l03Coproduct.sx0_0 (h0 : Nat → Int) (h1 : Nat → Int) (v2 : Nat → Int) (o9 : Nat → Int) : St := ⟨sl 46 [(4, .sptr [(3, 64)]), (5, .sptr [(4, 64)])], [⟨true, .ints .i64 2 h0⟩, ⟨true, .ints .u8 1104 h1⟩, ⟨true, .ints .u8 8 v2⟩, ⟨true, .ints .u8 64 (fun _ => 0)⟩, ⟨true, .ints .u8 64 o9⟩]⟩

noncomputable def spec_l03Coproduct.k1g {ρ : Type} (N : Nat) (L0 : St → Option ρ) (kv : XE → St → Option ρ) : XE → St → Option ρ := (blockK spec_l03Coproduct.kp 0 2 (blockK spec_l03Coproduct.kp 0 1 (seqK (xcode (E26 N) ents spec_l03Coproduct.kp 0 N (cB (cB (cL (cK (cB (cA (cB (cB spec_l03Coproduct.bd)))))))) 0) (roundK spec_l03Coproduct.kp 0 0 L0 kv))))

theorem spec_l03Coproduct.k1_mix {ρ : Type} (N : Nat) (K : AV → Heap → Option ρ) (L0 : St → Option ρ) : mixK (spec_l03Coproduct.fin N K .ret) (spec_l03Coproduct.k1g N L0 (spec_l03Coproduct.k0 N K)) = (spec_l03Coproduct.k1g N L0 (spec_l03Coproduct.k0 N K)) := by
  funext e s; cases e <;> rfl

noncomputable def spec_l03Coproduct.st1 (h0 : Nat → Int) (h1 : Nat → Int) (v2 : Nat → Int) (i3 : Int) (j5 : Int) (g6 : Nat → Int) : St := ⟨sl 46 [(2, .sptr [(0, 2), (1, 1104)]), (3, .sptr [(2, 8)]), (4, .sptr [(3, 64)]), (5, .sptr [(4, 64)]), (6, .int .i64 (i3)), (7, .int .i64 (j5))], [⟨true, .ints .i64 2 h0⟩, ⟨true, .ints .u8 1104 h1⟩, ⟨true, .ints .u8 8 v2⟩, ⟨true, .ints .u8 64 (fun _ => 0)⟩, ⟨true, .ints .u8 64 g6⟩]⟩

noncomputable def spec_l03Coproduct.sx1_0 (h0 : Nat → Int) (h1 : Nat → Int) (v2 : Nat → Int) (i3 : Int) (o8 : Nat → Int) : St := ⟨sl 46 [(2, .sptr [(0, 2), (1, 1104)]), (3, .sptr [(2, 8)]), (4, .sptr [(3, 64)]), (5, .sptr [(4, 64)]), (6, .int .i64 (i3))], [⟨true, .ints .i64 2 h0⟩, ⟨true, .ints .u8 1104 h1⟩, ⟨true, .ints .u8 8 v2⟩, ⟨true, .ints .u8 64 (fun _ => 0)⟩, ⟨true, .ints .u8 64 o8⟩]⟩

theorem spec_l03Coproduct.b1_gen {ρ : Type} (N : Nat) (K : AV → Heap → Option ρ) (L1 : St → Option ρ) (kv : XE → St → Option ρ) (h0 : Nat → Int) (h1 : Nat → Int) (v2 : Nat → Int) (i3 : Int) (j5 : Int) (g6 : Nat → Int) :
    xcode (E26 N) ents spec_l03Coproduct.kp 0 N (cL (cK (cB (cK (cA (cB (cL (cK (cB (cA (cB (cB spec_l03Coproduct.bd)))))))))))) 2 (spec_l03Coproduct.st1 h0 h1 v2 i3 j5 g6) (roundK spec_l03Coproduct.kp 0 2 L1 (mixK (spec_l03Coproduct.fin N K .ret) kv)) = (spec_l03Coproduct.b1 N (fun d0 => K (.agg [⟨.u8, 64, d0⟩]) []) (fun j5 g6 => L1 (spec_l03Coproduct.st1 h0 h1 v2 i3 j5 g6)) (fun o8 => kv (.exit 2) (spec_l03Coproduct.sx1_0 h0 h1 v2 i3 o8)) h0 h1 v2 i3 j5 g6) := by kernel_rfl

theorem spec_l03Coproduct.b1_eq {ρ : Type} (N : Nat) (K : AV → Heap → Option ρ) (L0 : St → Option ρ) (L1 : St → Option ρ) (h0 : Nat → Int) (h1 : Nat → Int) (v2 : Nat → Int) (i3 : Int) (j5 : Int) (g6 : Nat → Int) :
    xcode (E26 N) ents spec_l03Coproduct.kp 0 N (cL (cK (cB (cK (cA (cB (cL (cK (cB (cA (cB (cB spec_l03Coproduct.bd)))))))))))) 2 (spec_l03Coproduct.st1 h0 h1 v2 i3 j5 g6) (roundK spec_l03Coproduct.kp 0 2 L1 (spec_l03Coproduct.k1g N L0 (spec_l03Coproduct.k0 N K))) = (spec_l03Coproduct.b1 N (fun d0 => K (.agg [⟨.u8, 64, d0⟩]) []) (fun j5 g6 => L1 (spec_l03Coproduct.st1 h0 h1 v2 i3 j5 g6)) (fun o8 => (spec_l03Coproduct.k1g N L0 (spec_l03Coproduct.k0 N K)) (.exit 2) (spec_l03Coproduct.sx1_0 h0 h1 v2 i3 o8)) h0 h1 v2 i3 j5 g6) := by
  have h := spec_l03Coproduct.b1_gen N K L1 (spec_l03Coproduct.k1g N L0 (spec_l03Coproduct.k0 N K)) h0 h1 v2 i3 j5 g6
  rw [spec_l03Coproduct.k1_mix] at h
  exact h

theorem spec_l03Coproduct.a1_0_gen {ρ : Type} (N : Nat) (K : AV → Heap → Option ρ) (L0 : St → Option ρ) (kv : XE → St → Option ρ) (h0 : Nat → Int) (h1 : Nat → Int) (v2 : Nat → Int) (i3 : Int) (o8 : Nat → Int) :
    (spec_l03Coproduct.k1g N L0 (mixK (spec_l03Coproduct.fin N K .ret) kv)) (.exit 2) (spec_l03Coproduct.sx1_0 h0 h1 v2 i3 o8) = (spec_l03Coproduct.a1_0 N (fun d0 => K (.agg [⟨.u8, 64, d0⟩]) []) (fun i3 g4 => L0 (spec_l03Coproduct.st0 h0 h1 v2 i3 g4)) (fun o9 => kv (.exit 0) (spec_l03Coproduct.sx0_0 h0 h1 v2 o9)) i3 o8) := by kernel_rfl

theorem spec_l03Coproduct.a1_0_eq {ρ : Type} (N : Nat) (K : AV → Heap → Option ρ) (L0 : St → Option ρ) (h0 : Nat → Int) (h1 : Nat → Int) (v2 : Nat → Int) (i3 : Int) (o8 : Nat → Int) :
    (spec_l03Coproduct.k1g N L0 (spec_l03Coproduct.k0 N K)) (.exit 2) (spec_l03Coproduct.sx1_0 h0 h1 v2 i3 o8) = (spec_l03Coproduct.a1_0 N (fun d0 => K (.agg [⟨.u8, 64, d0⟩]) []) (fun i3 g4 => L0 (spec_l03Coproduct.st0 h0 h1 v2 i3 g4)) (fun o9 => (spec_l03Coproduct.k0 N K) (.exit 0) (spec_l03Coproduct.sx0_0 h0 h1 v2 o9)) i3 o8) := by
  have h := spec_l03Coproduct.a1_0_gen N K L0 (spec_l03Coproduct.k0 N K) h0 h1 v2 i3 o8
  rw [spec_l03Coproduct.k0_mix] at h
  exact h

theorem spec_l03Coproduct.b0_gen {ρ : Type} (N : Nat) (K : AV → Heap → Option ρ) (L0 : St → Option ρ) (kv : XE → St → Option ρ) (h0 : Nat → Int) (h1 : Nat → Int) (v2 : Nat → Int) (i3 : Int) (g4 : Nat → Int) :
    xcode (E26 N) ents spec_l03Coproduct.kp 0 N (cL (cK (cB (cA (cB (cB spec_l03Coproduct.bd)))))) 0 (spec_l03Coproduct.st0 h0 h1 v2 i3 g4) (roundK spec_l03Coproduct.kp 0 0 L0 (mixK (spec_l03Coproduct.fin N K .ret) kv)) = (spec_l03Coproduct.b0 N (fun d0 => K (.agg [⟨.u8, 64, d0⟩]) []) (fun j5 g6 => xloop (xcode (E26 N) ents spec_l03Coproduct.kp 0 N (cL (cK (cB (cK (cA (cB (cL (cK (cB (cA (cB (cB spec_l03Coproduct.bd)))))))))))) 2) spec_l03Coproduct.kp 0 2 N (spec_l03Coproduct.st1 h0 h1 v2 i3 j5 g6) (spec_l03Coproduct.k1g N L0 (mixK (spec_l03Coproduct.fin N K .ret) kv))) (fun i3 g4 => L0 (spec_l03Coproduct.st0 h0 h1 v2 i3 g4)) (fun o9 => kv (.exit 0) (spec_l03Coproduct.sx0_0 h0 h1 v2 o9)) h0 i3 g4) := by kernel_rfl

theorem spec_l03Coproduct.b0_eq {ρ : Type} (N : Nat) (K : AV → Heap → Option ρ) (L0 : St → Option ρ) (h0 : Nat → Int) (h1 : Nat → Int) (v2 : Nat → Int) (i3 : Int) (g4 : Nat → Int) :
    xcode (E26 N) ents spec_l03Coproduct.kp 0 N (cL (cK (cB (cA (cB (cB spec_l03Coproduct.bd)))))) 0 (spec_l03Coproduct.st0 h0 h1 v2 i3 g4) (roundK spec_l03Coproduct.kp 0 0 L0 (spec_l03Coproduct.k0 N K)) = (spec_l03Coproduct.b0 N (fun d0 => K (.agg [⟨.u8, 64, d0⟩]) []) (fun j5 g6 => xloop (xcode (E26 N) ents spec_l03Coproduct.kp 0 N (cL (cK (cB (cK (cA (cB (cL (cK (cB (cA (cB (cB spec_l03Coproduct.bd)))))))))))) 2) spec_l03Coproduct.kp 0 2 N (spec_l03Coproduct.st1 h0 h1 v2 i3 j5 g6) (spec_l03Coproduct.k1g N L0 (spec_l03Coproduct.k0 N K))) (fun i3 g4 => L0 (spec_l03Coproduct.st0 h0 h1 v2 i3 g4)) (fun o9 => (spec_l03Coproduct.k0 N K) (.exit 0) (spec_l03Coproduct.sx0_0 h0 h1 v2 o9)) h0 i3 g4) := by
  have h := spec_l03Coproduct.b0_gen N K L0 (spec_l03Coproduct.k0 N K) h0 h1 v2 i3 g4
  rw [spec_l03Coproduct.k0_mix] at h
  exact h

theorem spec_l03Coproduct.a0_0_eq {ρ : Type} (N : Nat) (K : AV → Heap → Option ρ) (h0 : Nat → Int) (h1 : Nat → Int) (v2 : Nat → Int) (o9 : Nat → Int) :
    (spec_l03Coproduct.k0 N K) (.exit 0) (spec_l03Coproduct.sx0_0 h0 h1 v2 o9) = (spec_l03Coproduct.a0_0 N (fun d0 => K (.agg [⟨.u8, 64, d0⟩]) []) o9) := by kernel_rfl

theorem spec_l03Coproduct.l1_eq {ρ : Type} (N : Nat) (K : AV → Heap → Option ρ) (L0 : St → Option ρ) (h0 : Nat → Int) (h1 : Nat → Int) (v2 : Nat → Int) (i3 : Int) :
    ∀ (m : Nat) (j5 : Int) (g6 : Nat → Int), xloop (xcode (E26 N) ents spec_l03Coproduct.kp 0 N (cL (cK (cB (cK (cA (cB (cL (cK (cB (cA (cB (cB spec_l03Coproduct.bd)))))))))))) 2) spec_l03Coproduct.kp 0 2 m (spec_l03Coproduct.st1 h0 h1 v2 i3 j5 g6) (spec_l03Coproduct.k1g N L0 (spec_l03Coproduct.k0 N K)) = (spec_l03Coproduct.l1 N (fun d0 => K (.agg [⟨.u8, 64, d0⟩]) []) h0 h1 v2 i3 (fun o8 => (spec_l03Coproduct.k1g N L0 (spec_l03Coproduct.k0 N K)) (.exit 2) (spec_l03Coproduct.sx1_0 h0 h1 v2 i3 o8)) m j5 g6) := by
  intro m
  induction m with
  | zero => intros; rfl
  | succ m ih =>
    intro j5 g6
    refine (spec_l03Coproduct.b1_eq N K L0 (fun s => xloop (xcode (E26 N) ents spec_l03Coproduct.kp 0 N (cL (cK (cB (cK (cA (cB (cL (cK (cB (cA (cB (cB spec_l03Coproduct.bd)))))))))))) 2) spec_l03Coproduct.kp 0 2 m s (spec_l03Coproduct.k1g N L0 (spec_l03Coproduct.k0 N K))) h0 h1 v2 i3 j5 g6).trans ?_
    simp only [ih]
    kernel_rfl

theorem spec_l03Coproduct.l0_eq {ρ : Type} (N : Nat) (K : AV → Heap → Option ρ) (h0 : Nat → Int) (h1 : Nat → Int) (v2 : Nat → Int) :
    ∀ (m : Nat) (i3 : Int) (g4 : Nat → Int), xloop (xcode (E26 N) ents spec_l03Coproduct.kp 0 N (cL (cK (cB (cA (cB (cB spec_l03Coproduct.bd)))))) 0) spec_l03Coproduct.kp 0 0 m (spec_l03Coproduct.st0 h0 h1 v2 i3 g4) (spec_l03Coproduct.k0 N K) = (spec_l03Coproduct.l0 N (fun d0 => K (.agg [⟨.u8, 64, d0⟩]) []) h0 h1 v2 (fun o9 => (spec_l03Coproduct.k0 N K) (.exit 0) (spec_l03Coproduct.sx0_0 h0 h1 v2 o9)) m i3 g4) := by
  intro m
  induction m with
  | zero => intros; rfl
  | succ m ih =>
    intro i3 g4
    refine (spec_l03Coproduct.b0_eq N K (fun s => xloop (xcode (E26 N) ents spec_l03Coproduct.kp 0 N (cL (cK (cB (cA (cB (cB spec_l03Coproduct.bd)))))) 0) spec_l03Coproduct.kp 0 0 m s (spec_l03Coproduct.k0 N K)) h0 h1 v2 i3 g4).trans ?_
    simp only [ih, spec_l03Coproduct.l1_eq, spec_l03Coproduct.a1_0_eq]
    kernel_rfl

theorem spec_l03Coproduct.s_eq {ρ : Type} (N : Nat) (K : AV → Heap → Option ρ) (h0 : Nat → Int) (h1 : Nat → Int) (v2 : Nat → Int) :
    xbody (E26 N) ents spec_l03Coproduct.kp N Go.Proofs.Try.f48 spec_l03Coproduct.bd [.agg [⟨.i64, 2, h0⟩, ⟨.u8, 1104, h1⟩], .agg [⟨.u8, 8, v2⟩]] [] K = (spec_l03Coproduct.s N (fun d0 => K (.agg [⟨.u8, 64, d0⟩]) []) (fun i3 g4 => xloop (xcode (E26 N) ents spec_l03Coproduct.kp 0 N (cL (cK (cB (cA (cB (cB spec_l03Coproduct.bd)))))) 0) spec_l03Coproduct.kp 0 0 N (spec_l03Coproduct.st0 h0 h1 v2 i3 g4) (spec_l03Coproduct.k0 N K))) := by kernel_rfl

theorem spec_l03Coproduct.eq {ρ : Type} (N : Nat) (K : AV → Heap → Option ρ) (h0 : Nat → Int) (h1 : Nat → Int) (v2 : Nat → Int) :
    xbody (E26 N) ents spec_l03Coproduct.kp N Go.Proofs.Try.f48 spec_l03Coproduct.bd [.agg [⟨.i64, 2, h0⟩, ⟨.u8, 1104, h1⟩], .agg [⟨.u8, 8, v2⟩]] [] K = (spec_l03Coproduct N (fun d0 => K (.agg [⟨.u8, 64, d0⟩]) []) h0 h1 v2) := by
  refine (spec_l03Coproduct.s_eq N K h0 h1 v2).trans ?_
  simp only [spec_l03Coproduct.l0_eq, spec_l03Coproduct.a0_0_eq]
  kernel_rfl

noncomputable def spec_l03Coproduct.en (N : Nat) (ρ : Type) : List AV → Heap → (AV → Heap → Option ρ) → Option ρ
  | [.agg [⟨.i64, 2, h0⟩, ⟨.u8, 1104, h1⟩], .agg [⟨.u8, 8, v2⟩]], [], K => (spec_l03Coproduct N (fun d0 => K (.agg [⟨.u8, 64, d0⟩]) []) h0 h1 v2)
  | _, _, _ => none

theorem spec_l03Coproduct.en_ok (N : Nat) (hE : EnvOk (E26 N) ents) (ρ : Type) (args : List AV) (sh : Heap) (K : AV → Heap → Option ρ) (r : ρ) (h : spec_l03Coproduct.en N ρ args sh K = some r) : ∃ v sh', K v sh' = some r ∧ FnOk (E26 N).P 48 args sh v sh' := by
  unfold spec_l03Coproduct.en at h
  split at h
  · exact fn_ok hE (kp := spec_l03Coproduct.kp) (N := N) Go.Proofs.Try.func48 (c := spec_l03Coproduct.bd) (by kernel_rfl) ((spec_l03Coproduct.eq N _ _ _ _).trans h)
  · cases h

noncomputable def E27 (N : Nat) : Env := (E26 N).add 48 (spec_l03Coproduct.en N)

theorem E27_ok (N : Nat) : EnvOk (E27 N) ents := Env.add_ok (E26_ok N) (spec_l03Coproduct.en_ok N (E26_ok N))

noncomputable def spec_l01Zero.kp : Keeps := ⟨[], []⟩

noncomputable def spec_l01Zero.bd : Code := bodyOf Go.Proofs.Try.f113

noncomputable def spec_l01Zero.fin {ρ : Type} (N : Nat) (K : AV → Heap → Option ρ) : XE → St → Option ρ := finK (E27 N) Go.Proofs.Try.f113 [] K

theorem spec_l01Zero.eq {ρ : Type} (N : Nat) (K : AV → Heap → Option ρ) (v0 : Nat → Int) :
    xbody (E27 N) ents spec_l01Zero.kp N Go.Proofs.Try.f113 spec_l01Zero.bd [.agg [⟨.u8, 8, v0⟩]] [] K = (spec_l01Zero N (fun d0 => K (.bool (d0)) []) v0) := by kernel_rfl

noncomputable def spec_l01Zero.en (N : Nat) (ρ : Type) : List AV → Heap → (AV → Heap → Option ρ) → Option ρ
  | [.agg [⟨.u8, 8, v0⟩]], [], K => (spec_l01Zero N (fun d0 => K (.bool (d0)) []) v0)
  | _, _, _ => none

theorem spec_l01Zero.en_ok (N : Nat) (hE : EnvOk (E27 N) ents) (ρ : Type) (args : List AV) (sh : Heap) (K : AV → Heap → Option ρ) (r : ρ) (h : spec_l01Zero.en N ρ args sh K = some r) : ∃ v sh', K v sh' = some r ∧ FnOk (E27 N).P 113 args sh v sh' := by
  unfold spec_l01Zero.en at h
  split at h
  · exact fn_ok hE (kp := spec_l01Zero.kp) (N := N) Go.Proofs.Try.func113 (c := spec_l01Zero.bd) (by kernel_rfl) ((spec_l01Zero.eq N _ _).trans h)
  · cases h

noncomputable def E28 (N : Nat) : Env := (E27 N).add 113 (spec_l01Zero.en N)

theorem E28_ok (N : Nat) : EnvOk (E28 N) ents := Env.add_ok (E27_ok N) (spec_l01Zero.en_ok N (E27_ok N))

noncomputable def spec_l03Pairs.kp : Keeps := ⟨[(0, [3, 4, 5, 6, 7, 8, 9, 10], 6), (2, [3, 4, 5, 6, 7, 8, 9, 10, 11], 6), (4, [3, 4, 5, 6, 7, 8, 9, 10, 11, 12, 13], 7)], [(0, [6, 9], 6), (2, [3, 4, 5, 6, 7, 8, 9, 10], 6), (4, [3, 4, 5, 6, 7, 8, 9, 10, 11], 7)]⟩

noncomputable def spec_l03Pairs.bd : Code := bodyOf Go.Proofs.Try.f93

noncomputable def spec_l03Pairs.fin {ρ : Type} (N : Nat) (K : AV → Heap → Option ρ) : XE → St → Option ρ := finK (E28 N) Go.Proofs.Try.f93 [] K

noncomputable def spec_l03Pairs.k0 {ρ : Type} (N : Nat) (K : AV → Heap → Option ρ) : XE → St → Option ρ := (blockK spec_l03Pairs.kp 0 0 (seqK (xcode (E28 N) ents spec_l03Pairs.kp 0 N (cB (cB (cB spec_l03Pairs.bd))) 0) (spec_l03Pairs.fin N K)))

theorem spec_l03Pairs.k0_mix {ρ : Type} (N : Nat) (K : AV → Heap → Option ρ) : mixK (spec_l03Pairs.fin N K .ret) (spec_l03Pairs.k0 N K) = (spec_l03Pairs.k0 N K) := by
  funext e s; cases e <;> rfl

noncomputable def spec_l03Pairs.st0 (h0 : Nat → Int) (h1 : Nat → Int) (f2 : Nat → Int) (g3 : Nat → Int) (j4 : Int) (g5 : Nat → Int) : St := ⟨sl 67 [(3, .sptr [(0, 2), (1, 1104)]), (4, .sptr [(2, 64)]), (5, .sptr [(3, 64)]), (6, .sptr [(4, 64)]), (7, .int .i64 ((h0 0))), (8, .int .i64 ((h0 1))), (9, .sptr [(5, 64)]), (10, .int .i64 (j4))], [⟨true, .ints .i64 2 h0⟩, ⟨true, .ints .u8 1104 h1⟩, ⟨true, .ints .u8 64 f2⟩, ⟨true, .ints .u8 64 g3⟩, ⟨true, .ints .u8 64 (fun _ => 0)⟩, ⟨true, .ints .u8 64 g5⟩]⟩

noncomputable def spec_l03Pairs.sx0_0 (h0 : Nat → Int) (h1 : Nat → Int) (f2 : Nat → Int) (g3 : Nat → Int) (o17 : Nat → Int) : St := ⟨sl 67 [(6, .sptr [(4, 64)]), (9, .sptr [(5, 64)])], [⟨true, .ints .i64 2 h0⟩, ⟨true, .ints .u8 1104 h1⟩, ⟨true, .ints .u8 64 f2⟩, ⟨true, .ints .u8 64 g3⟩, ⟨true, .ints .u8 64 (fun _ => 0)⟩, ⟨true, .ints .u8 64 o17⟩]⟩

noncomputable def spec_l03Pairs.k1g {ρ : Type} (N : Nat) (L0 : St → Option ρ) (kv : XE → St → Option ρ) : XE → St → Option ρ := (blockK spec_l03Pairs.kp 0 2 (blockK spec_l03Pairs.kp 0 1 (seqK (xcode (E28 N) ents spec_l03Pairs.kp 0 N (cB (cB (cL (cK (cB (cA (cB (cB spec_l03Pairs.bd)))))))) 0) (roundK spec_l03Pairs.kp 0 0 L0 kv))))

theorem spec_l03Pairs.k1_mix {ρ : Type} (N : Nat) (K : AV → Heap → Option ρ) (L0 : St → Option ρ) : mixK (spec_l03Pairs.fin N K .ret) (spec_l03Pairs.k1g N L0 (spec_l03Pairs.k0 N K)) = (spec_l03Pairs.k1g N L0 (spec_l03Pairs.k0 N K)) := by
  funext e s; cases e <;> rfl

noncomputable def spec_l03Pairs.st1 (h0 : Nat → Int) (h1 : Nat → Int) (f2 : Nat → Int) (g3 : Nat → Int) (j4 : Int) (l6 : Int) (g7 : Nat → Int) : St := ⟨sl 67 [(3, .sptr [(0, 2), (1, 1104)]), (4, .sptr [(2, 64)]), (5, .sptr [(3, 64)]), (6, .sptr [(4, 64)]), (7, .int .i64 ((h0 0))), (8, .int .i64 ((h0 1))), (9, .sptr [(5, 64)]), (10, .int .i64 (j4)), (11, .int .i64 (l6))], [⟨true, .ints .i64 2 h0⟩, ⟨true, .ints .u8 1104 h1⟩, ⟨true, .ints .u8 64 f2⟩, ⟨true, .ints .u8 64 g3⟩, ⟨true, .ints .u8 64 (fun _ => 0)⟩, ⟨true, .ints .u8 64 g7⟩]⟩

noncomputable def spec_l03Pairs.sx1_0 (h0 : Nat → Int) (h1 : Nat → Int) (f2 : Nat → Int) (g3 : Nat → Int) (j4 : Int) (o16 : Nat → Int) : St := ⟨sl 67 [(3, .sptr [(0, 2), (1, 1104)]), (4, .sptr [(2, 64)]), (5, .sptr [(3, 64)]), (6, .sptr [(4, 64)]), (7, .int .i64 ((h0 0))), (8, .int .i64 ((h0 1))), (9, .sptr [(5, 64)]), (10, .int .i64 (j4))], [⟨true, .ints .i64 2 h0⟩, ⟨true, .ints .u8 1104 h1⟩, ⟨true, .ints .u8 64 f2⟩, ⟨true, .ints .u8 64 g3⟩, ⟨true, .ints .u8 64 (fun _ => 0)⟩, ⟨true, .ints .u8 64 o16⟩]⟩

noncomputable def spec_l03Pairs.k2g {ρ : Type} (N : Nat) (L1 : St → Option ρ) (kv : XE → St → Option ρ) : XE → St → Option ρ := (blockK spec_l03Pairs.kp 0 4 (blockK spec_l03Pairs.kp 0 3 (seqK (xcode (E28 N) ents spec_l03Pairs.kp 0 N (cB (cB (cL (cK (cB (cK (cA (cB (cL (cK (cB (cA (cB (cB spec_l03Pairs.bd)))))))))))))) 2) (roundK spec_l03Pairs.kp 0 2 L1 kv))))

theorem spec_l03Pairs.k2_mix {ρ : Type} (N : Nat) (K : AV → Heap → Option ρ) (L0 : St → Option ρ) (L1 : St → Option ρ) : mixK (spec_l03Pairs.fin N K .ret) (spec_l03Pairs.k2g N L1 (spec_l03Pairs.k1g N L0 (spec_l03Pairs.k0 N K))) = (spec_l03Pairs.k2g N L1 (spec_l03Pairs.k1g N L0 (spec_l03Pairs.k0 N K))) := by
  funext e s; cases e <;> rfl

noncomputable def spec_l03Pairs.st2 (h0 : Nat → Int) (h1 : Nat → Int) (f2 : Nat → Int) (g3 : Nat → Int) (j4 : Int) (l6 : Int) (r10 : Nat → Int) (x12 : Int) (g13 : Nat → Int) : St := ⟨sl 67 [(3, .sptr [(0, 2), (1, 1104)]), (4, .sptr [(2, 64)]), (5, .sptr [(3, 64)]), (6, .sptr [(4, 64)]), (7, .int .i64 ((h0 0))), (8, .int .i64 ((h0 1))), (9, .sptr [(5, 64)]), (10, .int .i64 (j4)), (11, .int .i64 (l6)), (12, .sptr [(6, 8)]), (13, .int .i64 (x12))], [⟨true, .ints .i64 2 h0⟩, ⟨true, .ints .u8 1104 h1⟩, ⟨true, .ints .u8 64 f2⟩, ⟨true, .ints .u8 64 g3⟩, ⟨true, .ints .u8 64 (fun _ => 0)⟩, ⟨true, .ints .u8 64 g13⟩, ⟨true, .ints .u8 8 r10⟩]⟩

noncomputable def spec_l03Pairs.sx2_0 (h0 : Nat → Int) (h1 : Nat → Int) (f2 : Nat → Int) (g3 : Nat → Int) (j4 : Int) (l6 : Int) (r10 : Nat → Int) (o15 : Nat → Int) : St := ⟨sl 67 [(3, .sptr [(0, 2), (1, 1104)]), (4, .sptr [(2, 64)]), (5, .sptr [(3, 64)]), (6, .sptr [(4, 64)]), (7, .int .i64 ((h0 0))), (8, .int .i64 ((h0 1))), (9, .sptr [(5, 64)]), (10, .int .i64 (j4)), (11, .int .i64 (l6))], [⟨true, .ints .i64 2 h0⟩, ⟨true, .ints .u8 1104 h1⟩, ⟨true, .ints .u8 64 f2⟩, ⟨true, .ints .u8 64 g3⟩, ⟨true, .ints .u8 64 (fun _ => 0)⟩, ⟨true, .ints .u8 64 o15⟩, ⟨true, .ints .u8 8 r10⟩]⟩

theorem spec_l03Pairs.b2_gen {ρ : Type} (N : Nat) (K : AV → Heap → Option ρ) (L2 : St → Option ρ) (kv : XE → St → Option ρ) (h0 : Nat → Int) (h1 : Nat → Int) (f2 : Nat → Int) (g3 : Nat → Int) (j4 : Int) (l6 : Int) (r10 : Nat → Int) (x12 : Int) (g13 : Nat → Int) :
    xcode (E28 N) ents spec_l03Pairs.kp 0 N (cL (cK (cB (cB (cB (cK (cA (cB (cL (cK (cB (cK (cA (cB (cL (cK (cB (cA (cB (cB spec_l03Pairs.bd)))))))))))))))))))) 4 (spec_l03Pairs.st2 h0 h1 f2 g3 j4 l6 r10 x12 g13) (roundK spec_l03Pairs.kp 0 4 L2 (mixK (spec_l03Pairs.fin N K .ret) kv)) = (spec_l03Pairs.b2 N (fun d0 => K (.agg [⟨.u8, 64, d0⟩]) []) (fun x12 g13 => L2 (spec_l03Pairs.st2 h0 h1 f2 g3 j4 l6 r10 x12 g13)) (fun o15 => kv (.exit 4) (spec_l03Pairs.sx2_0 h0 h1 f2 g3 j4 l6 r10 o15)) h0 h1 j4 l6 r10 x12 g13) := by kernel_rfl

theorem spec_l03Pairs.b2_eq {ρ : Type} (N : Nat) (K : AV → Heap → Option ρ) (L0 : St → Option ρ) (L1 : St → Option ρ) (L2 : St → Option ρ) (h0 : Nat → Int) (h1 : Nat → Int) (f2 : Nat → Int) (g3 : Nat → Int) (j4 : Int) (l6 : Int) (r10 : Nat → Int) (x12 : Int) (g13 : Nat → Int) :
    xcode (E28 N) ents spec_l03Pairs.kp 0 N (cL (cK (cB (cB (cB (cK (cA (cB (cL (cK (cB (cK (cA (cB (cL (cK (cB (cA (cB (cB spec_l03Pairs.bd)))))))))))))))))))) 4 (spec_l03Pairs.st2 h0 h1 f2 g3 j4 l6 r10 x12 g13) (roundK spec_l03Pairs.kp 0 4 L2 (spec_l03Pairs.k2g N L1 (spec_l03Pairs.k1g N L0 (spec_l03Pairs.k0 N K)))) = (spec_l03Pairs.b2 N (fun d0 => K (.agg [⟨.u8, 64, d0⟩]) []) (fun x12 g13 => L2 (spec_l03Pairs.st2 h0 h1 f2 g3 j4 l6 r10 x12 g13)) (fun o15 => (spec_l03Pairs.k2g N L1 (spec_l03Pairs.k1g N L0 (spec_l03Pairs.k0 N K))) (.exit 4) (spec_l03Pairs.sx2_0 h0 h1 f2 g3 j4 l6 r10 o15)) h0 h1 j4 l6 r10 x12 g13) := by
  have h := spec_l03Pairs.b2_gen N K L2 (spec_l03Pairs.k2g N L1 (spec_l03Pairs.k1g N L0 (spec_l03Pairs.k0 N K))) h0 h1 f2 g3 j4 l6 r10 x12 g13
  rw [spec_l03Pairs.k2_mix] at h
  exact h

theorem spec_l03Pairs.a2_0_gen {ρ : Type} (N : Nat) (K : AV → Heap → Option ρ) (L1 : St → Option ρ) (kv : XE → St → Option ρ) (h0 : Nat → Int) (h1 : Nat → Int) (f2 : Nat → Int) (g3 : Nat → Int) (j4 : Int) (l6 : Int) (r10 : Nat → Int) (o15 : Nat → Int) :
    (spec_l03Pairs.k2g N L1 (mixK (spec_l03Pairs.fin N K .ret) kv)) (.exit 4) (spec_l03Pairs.sx2_0 h0 h1 f2 g3 j4 l6 r10 o15) = (spec_l03Pairs.a2_0 N (fun d0 => K (.agg [⟨.u8, 64, d0⟩]) []) (fun l6 g7 => L1 (spec_l03Pairs.st1 h0 h1 f2 g3 j4 l6 g7)) (fun o16 => kv (.exit 2) (spec_l03Pairs.sx1_0 h0 h1 f2 g3 j4 o16)) l6 o15) := by kernel_rfl

theorem spec_l03Pairs.a2_0_eq {ρ : Type} (N : Nat) (K : AV → Heap → Option ρ) (L0 : St → Option ρ) (L1 : St → Option ρ) (h0 : Nat → Int) (h1 : Nat → Int) (f2 : Nat → Int) (g3 : Nat → Int) (j4 : Int) (l6 : Int) (r10 : Nat → Int) (o15 : Nat → Int) :
    (spec_l03Pairs.k2g N L1 (spec_l03Pairs.k1g N L0 (spec_l03Pairs.k0 N K))) (.exit 4) (spec_l03Pairs.sx2_0 h0 h1 f2 g3 j4 l6 r10 o15) = (spec_l03Pairs.a2_0 N (fun d0 => K (.agg [⟨.u8, 64, d0⟩]) []) (fun l6 g7 => L1 (spec_l03Pairs.st1 h0 h1 f2 g3 j4 l6 g7)) (fun o16 => (spec_l03Pairs.k1g N L0 (spec_l03Pairs.k0 N K)) (.exit 2) (spec_l03Pairs.sx1_0 h0 h1 f2 g3 j4 o16)) l6 o15) := by
  have h := spec_l03Pairs.a2_0_gen N K L1 (spec_l03Pairs.k1g N L0 (spec_l03Pairs.k0 N K)) h0 h1 f2 g3 j4 l6 r10 o15
  rw [spec_l03Pairs.k1_mix] at h
  exact h

theorem spec_l03Pairs.b1_gen {ρ : Type} (N : Nat) (K : AV → Heap → Option ρ) (L1 : St → Option ρ) (kv : XE → St → Option ρ) (h0 : Nat → Int) (h1 : Nat → Int) (f2 : Nat → Int) (g3 : Nat → Int) (j4 : Int) (l6 : Int) (g7 : Nat → Int) :
    xcode (E28 N) ents spec_l03Pairs.kp 0 N (cL (cK (cB (cK (cA (cB (cL (cK (cB (cA (cB (cB spec_l03Pairs.bd)))))))))))) 2 (spec_l03Pairs.st1 h0 h1 f2 g3 j4 l6 g7) (roundK spec_l03Pairs.kp 0 2 L1 (mixK (spec_l03Pairs.fin N K .ret) kv)) = (spec_l03Pairs.b1 N (fun d0 => K (.agg [⟨.u8, 64, d0⟩]) []) (fun r10 x12 g13 => xloop (xcode (E28 N) ents spec_l03Pairs.kp 0 N (cL (cK (cB (cB (cB (cK (cA (cB (cL (cK (cB (cK (cA (cB (cL (cK (cB (cA (cB (cB spec_l03Pairs.bd)))))))))))))))))))) 4) spec_l03Pairs.kp 0 4 N (spec_l03Pairs.st2 h0 h1 f2 g3 j4 l6 r10 x12 g13) (spec_l03Pairs.k2g N L1 (mixK (spec_l03Pairs.fin N K .ret) kv))) (fun l6 g7 => L1 (spec_l03Pairs.st1 h0 h1 f2 g3 j4 l6 g7)) (fun o16 => kv (.exit 2) (spec_l03Pairs.sx1_0 h0 h1 f2 g3 j4 o16)) h0 h1 f2 g3 j4 l6 g7) := by kernel_rfl

theorem spec_l03Pairs.b1_eq {ρ : Type} (N : Nat) (K : AV → Heap → Option ρ) (L0 : St → Option ρ) (L1 : St → Option ρ) (h0 : Nat → Int) (h1 : Nat → Int) (f2 : Nat → Int) (g3 : Nat → Int) (j4 : Int) (l6 : Int) (g7 : Nat → Int) :
    xcode (E28 N) ents spec_l03Pairs.kp 0 N (cL (cK (cB (cK (cA (cB (cL (cK (cB (cA (cB (cB spec_l03Pairs.bd)))))))))))) 2 (spec_l03Pairs.st1 h0 h1 f2 g3 j4 l6 g7) (roundK spec_l03Pairs.kp 0 2 L1 (spec_l03Pairs.k1g N L0 (spec_l03Pairs.k0 N K))) = (spec_l03Pairs.b1 N (fun d0 => K (.agg [⟨.u8, 64, d0⟩]) []) (fun r10 x12 g13 => xloop (xcode (E28 N) ents spec_l03Pairs.kp 0 N (cL (cK (cB (cB (cB (cK (cA (cB (cL (cK (cB (cK (cA (cB (cL (cK (cB (cA (cB (cB spec_l03Pairs.bd)))))))))))))))))))) 4) spec_l03Pairs.kp 0 4 N (spec_l03Pairs.st2 h0 h1 f2 g3 j4 l6 r10 x12 g13) (spec_l03Pairs.k2g N L1 (spec_l03Pairs.k1g N L0 (spec_l03Pairs.k0 N K)))) (fun l6 g7 => L1 (spec_l03Pairs.st1 h0 h1 f2 g3 j4 l6 g7)) (fun o16 => (spec_l03Pairs.k1g N L0 (spec_l03Pairs.k0 N K)) (.exit 2) (spec_l03Pairs.sx1_0 h0 h1 f2 g3 j4 o16)) h0 h1 f2 g3 j4 l6 g7) := by
  have h := spec_l03Pairs.b1_gen N K L1 (spec_l03Pairs.k1g N L0 (spec_l03Pairs.k0 N K)) h0 h1 f2 g3 j4 l6 g7
  rw [spec_l03Pairs.k1_mix] at h
  exact h

theorem spec_l03Pairs.a1_0_gen {ρ : Type} (N : Nat) (K : AV → Heap → Option ρ) (L0 : St → Option ρ) (kv : XE → St → Option ρ) (h0 : Nat → Int) (h1 : Nat → Int) (f2 : Nat → Int) (g3 : Nat → Int) (j4 : Int) (o16 : Nat → Int) :
    (spec_l03Pairs.k1g N L0 (mixK (spec_l03Pairs.fin N K .ret) kv)) (.exit 2) (spec_l03Pairs.sx1_0 h0 h1 f2 g3 j4 o16) = (spec_l03Pairs.a1_0 N (fun d0 => K (.agg [⟨.u8, 64, d0⟩]) []) (fun j4 g5 => L0 (spec_l03Pairs.st0 h0 h1 f2 g3 j4 g5)) (fun o17 => kv (.exit 0) (spec_l03Pairs.sx0_0 h0 h1 f2 g3 o17)) j4 o16) := by kernel_rfl

theorem spec_l03Pairs.a1_0_eq {ρ : Type} (N : Nat) (K : AV → Heap → Option ρ) (L0 : St → Option ρ) (h0 : Nat → Int) (h1 : Nat → Int) (f2 : Nat → Int) (g3 : Nat → Int) (j4 : Int) (o16 : Nat → Int) :
    (spec_l03Pairs.k1g N L0 (spec_l03Pairs.k0 N K)) (.exit 2) (spec_l03Pairs.sx1_0 h0 h1 f2 g3 j4 o16) = (spec_l03Pairs.a1_0 N (fun d0 => K (.agg [⟨.u8, 64, d0⟩]) []) (fun j4 g5 => L0 (spec_l03Pairs.st0 h0 h1 f2 g3 j4 g5)) (fun o17 => (spec_l03Pairs.k0 N K) (.exit 0) (spec_l03Pairs.sx0_0 h0 h1 f2 g3 o17)) j4 o16) := by
  have h := spec_l03Pairs.a1_0_gen N K L0 (spec_l03Pairs.k0 N K) h0 h1 f2 g3 j4 o16
  rw [spec_l03Pairs.k0_mix] at h
  exact h

theorem spec_l03Pairs.b0_gen {ρ : Type} (N : Nat) (K : AV → Heap → Option ρ) (L0 : St → Option ρ) (kv : XE → St → Option ρ) (h0 : Nat → Int) (h1 : Nat → Int) (f2 : Nat → Int) (g3 : Nat → Int) (j4 : Int) (g5 : Nat → Int) :
    xcode (E28 N) ents spec_l03Pairs.kp 0 N (cL (cK (cB (cA (cB (cB spec_l03Pairs.bd)))))) 0 (spec_l03Pairs.st0 h0 h1 f2 g3 j4 g5) (roundK spec_l03Pairs.kp 0 0 L0 (mixK (spec_l03Pairs.fin N K .ret) kv)) = (spec_l03Pairs.b0 N (fun d0 => K (.agg [⟨.u8, 64, d0⟩]) []) (fun l6 g7 => xloop (xcode (E28 N) ents spec_l03Pairs.kp 0 N (cL (cK (cB (cK (cA (cB (cL (cK (cB (cA (cB (cB spec_l03Pairs.bd)))))))))))) 2) spec_l03Pairs.kp 0 2 N (spec_l03Pairs.st1 h0 h1 f2 g3 j4 l6 g7) (spec_l03Pairs.k1g N L0 (mixK (spec_l03Pairs.fin N K .ret) kv))) (fun j4 g5 => L0 (spec_l03Pairs.st0 h0 h1 f2 g3 j4 g5)) (fun o17 => kv (.exit 0) (spec_l03Pairs.sx0_0 h0 h1 f2 g3 o17)) h0 j4 g5) := by kernel_rfl

theorem spec_l03Pairs.b0_eq {ρ : Type} (N : Nat) (K : AV → Heap → Option ρ) (L0 : St → Option ρ) (h0 : Nat → Int) (h1 : Nat → Int) (f2 : Nat → Int) (g3 : Nat → Int) (j4 : Int) (g5 : Nat → Int) :
    xcode (E28 N) ents spec_l03Pairs.kp 0 N (cL (cK (cB (cA (cB (cB spec_l03Pairs.bd)))))) 0 (spec_l03Pairs.st0 h0 h1 f2 g3 j4 g5) (roundK spec_l03Pairs.kp 0 0 L0 (spec_l03Pairs.k0 N K)) = (spec_l03Pairs.b0 N (fun d0 => K (.agg [⟨.u8, 64, d0⟩]) []) (fun l6 g7 => xloop (xcode (E28 N) ents spec_l03Pairs.kp 0 N (cL (cK (cB (cK (cA (cB (cL (cK (cB (cA (cB (cB spec_l03Pairs.bd)))))))))))) 2) spec_l03Pairs.kp 0 2 N (spec_l03Pairs.st1 h0 h1 f2 g3 j4 l6 g7) (spec_l03Pairs.k1g N L0 (spec_l03Pairs.k0 N K))) (fun j4 g5 => L0 (spec_l03Pairs.st0 h0 h1 f2 g3 j4 g5)) (fun o17 => (spec_l03Pairs.k0 N K) (.exit 0) (spec_l03Pairs.sx0_0 h0 h1 f2 g3 o17)) h0 j4 g5) := by
  have h := spec_l03Pairs.b0_gen N K L0 (spec_l03Pairs.k0 N K) h0 h1 f2 g3 j4 g5
  rw [spec_l03Pairs.k0_mix] at h
  exact h

theorem spec_l03Pairs.a0_0_eq {ρ : Type} (N : Nat) (K : AV → Heap → Option ρ) (h0 : Nat → Int) (h1 : Nat → Int) (f2 : Nat → Int) (g3 : Nat → Int) (o17 : Nat → Int) :
    (spec_l03Pairs.k0 N K) (.exit 0) (spec_l03Pairs.sx0_0 h0 h1 f2 g3 o17) = (spec_l03Pairs.a0_0 N (fun d0 => K (.agg [⟨.u8, 64, d0⟩]) []) o17) := by kernel_rfl

theorem spec_l03Pairs.l2_eq {ρ : Type} (N : Nat) (K : AV → Heap → Option ρ) (L0 : St → Option ρ) (L1 : St → Option ρ) (h0 : Nat → Int) (h1 : Nat → Int) (f2 : Nat → Int) (g3 : Nat → Int) (j4 : Int) (l6 : Int) (r10 : Nat → Int) :
    ∀ (m : Nat) (x12 : Int) (g13 : Nat → Int), xloop (xcode (E28 N) ents spec_l03Pairs.kp 0 N (cL (cK (cB (cB (cB (cK (cA (cB (cL (cK (cB (cK (cA (cB (cL (cK (cB (cA (cB (cB spec_l03Pairs.bd)))))))))))))))))))) 4) spec_l03Pairs.kp 0 4 m (spec_l03Pairs.st2 h0 h1 f2 g3 j4 l6 r10 x12 g13) (spec_l03Pairs.k2g N L1 (spec_l03Pairs.k1g N L0 (spec_l03Pairs.k0 N K))) = (spec_l03Pairs.l2 N (fun d0 => K (.agg [⟨.u8, 64, d0⟩]) []) h0 h1 j4 l6 r10 (fun o15 => (spec_l03Pairs.k2g N L1 (spec_l03Pairs.k1g N L0 (spec_l03Pairs.k0 N K))) (.exit 4) (spec_l03Pairs.sx2_0 h0 h1 f2 g3 j4 l6 r10 o15)) m x12 g13) := by
  intro m
  induction m with
  | zero => intros; rfl
  | succ m ih =>
    intro x12 g13
    refine (spec_l03Pairs.b2_eq N K L0 L1 (fun s => xloop (xcode (E28 N) ents spec_l03Pairs.kp 0 N (cL (cK (cB (cB (cB (cK (cA (cB (cL (cK (cB (cK (cA (cB (cL (cK (cB (cA (cB (cB spec_l03Pairs.bd)))))))))))))))))))) 4) spec_l03Pairs.kp 0 4 m s (spec_l03Pairs.k2g N L1 (spec_l03Pairs.k1g N L0 (spec_l03Pairs.k0 N K)))) h0 h1 f2 g3 j4 l6 r10 x12 g13).trans ?_
    simp only [ih]
    kernel_rfl

theorem spec_l03Pairs.l1_eq {ρ : Type} (N : Nat) (K : AV → Heap → Option ρ) (L0 : St → Option ρ) (h0 : Nat → Int) (h1 : Nat → Int) (f2 : Nat → Int) (g3 : Nat → Int) (j4 : Int) :
    ∀ (m : Nat) (l6 : Int) (g7 : Nat → Int), xloop (xcode (E28 N) ents spec_l03Pairs.kp 0 N (cL (cK (cB (cK (cA (cB (cL (cK (cB (cA (cB (cB spec_l03Pairs.bd)))))))))))) 2) spec_l03Pairs.kp 0 2 m (spec_l03Pairs.st1 h0 h1 f2 g3 j4 l6 g7) (spec_l03Pairs.k1g N L0 (spec_l03Pairs.k0 N K)) = (spec_l03Pairs.l1 N (fun d0 => K (.agg [⟨.u8, 64, d0⟩]) []) h0 h1 f2 g3 j4 (fun o16 => (spec_l03Pairs.k1g N L0 (spec_l03Pairs.k0 N K)) (.exit 2) (spec_l03Pairs.sx1_0 h0 h1 f2 g3 j4 o16)) m l6 g7) := by
  intro m
  induction m with
  | zero => intros; rfl
  | succ m ih =>
    intro l6 g7
    refine (spec_l03Pairs.b1_eq N K L0 (fun s => xloop (xcode (E28 N) ents spec_l03Pairs.kp 0 N (cL (cK (cB (cK (cA (cB (cL (cK (cB (cA (cB (cB spec_l03Pairs.bd)))))))))))) 2) spec_l03Pairs.kp 0 2 m s (spec_l03Pairs.k1g N L0 (spec_l03Pairs.k0 N K))) h0 h1 f2 g3 j4 l6 g7).trans ?_
    simp only [ih, spec_l03Pairs.l2_eq, spec_l03Pairs.a2_0_eq]
    kernel_rfl

theorem spec_l03Pairs.l0_eq {ρ : Type} (N : Nat) (K : AV → Heap → Option ρ) (h0 : Nat → Int) (h1 : Nat → Int) (f2 : Nat → Int) (g3 : Nat → Int) :
    ∀ (m : Nat) (j4 : Int) (g5 : Nat → Int), xloop (xcode (E28 N) ents spec_l03Pairs.kp 0 N (cL (cK (cB (cA (cB (cB spec_l03Pairs.bd)))))) 0) spec_l03Pairs.kp 0 0 m (spec_l03Pairs.st0 h0 h1 f2 g3 j4 g5) (spec_l03Pairs.k0 N K) = (spec_l03Pairs.l0 N (fun d0 => K (.agg [⟨.u8, 64, d0⟩]) []) h0 h1 f2 g3 (fun o17 => (spec_l03Pairs.k0 N K) (.exit 0) (spec_l03Pairs.sx0_0 h0 h1 f2 g3 o17)) m j4 g5) := by
  intro m
  induction m with
  | zero => intros; rfl
  | succ m ih =>
    intro j4 g5
    refine (spec_l03Pairs.b0_eq N K (fun s => xloop (xcode (E28 N) ents spec_l03Pairs.kp 0 N (cL (cK (cB (cA (cB (cB spec_l03Pairs.bd)))))) 0) spec_l03Pairs.kp 0 0 m s (spec_l03Pairs.k0 N K)) h0 h1 f2 g3 j4 g5).trans ?_
    simp only [ih, spec_l03Pairs.l1_eq, spec_l03Pairs.a1_0_eq]
    kernel_rfl

theorem spec_l03Pairs.s_eq {ρ : Type} (N : Nat) (K : AV → Heap → Option ρ) (h0 : Nat → Int) (h1 : Nat → Int) (f2 : Nat → Int) (g3 : Nat → Int) :
    xbody (E28 N) ents spec_l03Pairs.kp N Go.Proofs.Try.f93 spec_l03Pairs.bd [.agg [⟨.i64, 2, h0⟩, ⟨.u8, 1104, h1⟩], .agg [⟨.u8, 64, f2⟩], .agg [⟨.u8, 64, g3⟩]] [] K = (spec_l03Pairs.s N (fun d0 => K (.agg [⟨.u8, 64, d0⟩]) []) (fun j4 g5 => xloop (xcode (E28 N) ents spec_l03Pairs.kp 0 N (cL (cK (cB (cA (cB (cB spec_l03Pairs.bd)))))) 0) spec_l03Pairs.kp 0 0 N (spec_l03Pairs.st0 h0 h1 f2 g3 j4 g5) (spec_l03Pairs.k0 N K))) := by kernel_rfl

theorem spec_l03Pairs.eq {ρ : Type} (N : Nat) (K : AV → Heap → Option ρ) (h0 : Nat → Int) (h1 : Nat → Int) (f2 : Nat → Int) (g3 : Nat → Int) :
    xbody (E28 N) ents spec_l03Pairs.kp N Go.Proofs.Try.f93 spec_l03Pairs.bd [.agg [⟨.i64, 2, h0⟩, ⟨.u8, 1104, h1⟩], .agg [⟨.u8, 64, f2⟩], .agg [⟨.u8, 64, g3⟩]] [] K = (spec_l03Pairs N (fun d0 => K (.agg [⟨.u8, 64, d0⟩]) []) h0 h1 f2 g3) := by
  refine (spec_l03Pairs.s_eq N K h0 h1 f2 g3).trans ?_
  simp only [spec_l03Pairs.l0_eq, spec_l03Pairs.a0_0_eq]
  kernel_rfl

noncomputable def spec_l03Pairs.en (N : Nat) (ρ : Type) : List AV → Heap → (AV → Heap → Option ρ) → Option ρ
  | [.agg [⟨.i64, 2, h0⟩, ⟨.u8, 1104, h1⟩], .agg [⟨.u8, 64, f2⟩], .agg [⟨.u8, 64, g3⟩]], [], K => (spec_l03Pairs N (fun d0 => K (.agg [⟨.u8, 64, d0⟩]) []) h0 h1 f2 g3)
  | _, _, _ => none

theorem spec_l03Pairs.en_ok (N : Nat) (hE : EnvOk (E28 N) ents) (ρ : Type) (args : List AV) (sh : Heap) (K : AV → Heap → Option ρ) (r : ρ) (h : spec_l03Pairs.en N ρ args sh K = some r) : ∃ v sh', K v sh' = some r ∧ FnOk (E28 N).P 93 args sh v sh' := by
  unfold spec_l03Pairs.en at h
  split at h
  · exact fn_ok hE (kp := spec_l03Pairs.kp) (N := N) Go.Proofs.Try.func93 (c := spec_l03Pairs.bd) (by kernel_rfl) ((spec_l03Pairs.eq N _ _ _ _ _).trans h)
  · cases h

noncomputable def E29 (N : Nat) : Env := (E28 N).add 93 (spec_l03Pairs.en N)

theorem E29_ok (N : Nat) : EnvOk (E29 N) ents := Env.add_ok (E28_ok N) (spec_l03Pairs.en_ok N (E28_ok N))

noncomputable def spec_l03Counit.kp : Keeps := ⟨[(0, [2, 3, 5, 6], 3)], [(0, [2, 5], 3)]⟩

noncomputable def spec_l03Counit.bd : Code := bodyOf Go.Proofs.Try.f37

noncomputable def spec_l03Counit.fin {ρ : Type} (N : Nat) (K : AV → Heap → Option ρ) : XE → St → Option ρ := finK (E29 N) Go.Proofs.Try.f37 [] K

noncomputable def spec_l03Counit.k0 {ρ : Type} (N : Nat) (K : AV → Heap → Option ρ) : XE → St → Option ρ := (blockK spec_l03Counit.kp 0 0 (seqK (xcode (E29 N) ents spec_l03Counit.kp 0 N (cB (cB (cB spec_l03Counit.bd))) 0) (spec_l03Counit.fin N K)))

theorem spec_l03Counit.k0_mix {ρ : Type} (N : Nat) (K : AV → Heap → Option ρ) : mixK (spec_l03Counit.fin N K .ret) (spec_l03Counit.k0 N K) = (spec_l03Counit.k0 N K) := by
  funext e s; cases e <;> rfl

noncomputable def spec_l03Counit.st0 (h0 : Nat → Int) (h1 : Nat → Int) (v2 : Nat → Int) (out3 : Int) (i4 : Int) : St := ⟨sl 29 [(2, .sptr [(0, 2), (1, 1104)]), (3, .sptr [(2, 8)]), (5, .int .i64 (out3)), (6, .int .i64 (i4))], [⟨true, .ints .i64 2 h0⟩, ⟨true, .ints .u8 1104 h1⟩, ⟨true, .ints .u8 8 v2⟩]⟩

noncomputable def spec_l03Counit.sx0_0 (h0 : Nat → Int) (h1 : Nat → Int) (v2 : Nat → Int) (o5 : Int) : St := ⟨sl 29 [(2, .sptr [(0, 2), (1, 1104)]), (5, .int .i64 (o5))], [⟨true, .ints .i64 2 h0⟩, ⟨true, .ints .u8 1104 h1⟩, ⟨true, .ints .u8 8 v2⟩]⟩

theorem spec_l03Counit.b0_gen {ρ : Type} (N : Nat) (K : AV → Heap → Option ρ) (L0 : St → Option ρ) (kv : XE → St → Option ρ) (h0 : Nat → Int) (h1 : Nat → Int) (v2 : Nat → Int) (out3 : Int) (i4 : Int) :
    xcode (E29 N) ents spec_l03Counit.kp 0 N (cL (cK (cB (cA (cB (cB spec_l03Counit.bd)))))) 0 (spec_l03Counit.st0 h0 h1 v2 out3 i4) (roundK spec_l03Counit.kp 0 0 L0 (mixK (spec_l03Counit.fin N K .ret) kv)) = (spec_l03Counit.b0 N (fun d0 => K (.int .i64 (d0)) []) (fun out3 i4 => L0 (spec_l03Counit.st0 h0 h1 v2 out3 i4)) (fun o5 => kv (.exit 0) (spec_l03Counit.sx0_0 h0 h1 v2 o5)) h0 h1 v2 out3 i4) := by kernel_rfl

theorem spec_l03Counit.b0_eq {ρ : Type} (N : Nat) (K : AV → Heap → Option ρ) (L0 : St → Option ρ) (h0 : Nat → Int) (h1 : Nat → Int) (v2 : Nat → Int) (out3 : Int) (i4 : Int) :
    xcode (E29 N) ents spec_l03Counit.kp 0 N (cL (cK (cB (cA (cB (cB spec_l03Counit.bd)))))) 0 (spec_l03Counit.st0 h0 h1 v2 out3 i4) (roundK spec_l03Counit.kp 0 0 L0 (spec_l03Counit.k0 N K)) = (spec_l03Counit.b0 N (fun d0 => K (.int .i64 (d0)) []) (fun out3 i4 => L0 (spec_l03Counit.st0 h0 h1 v2 out3 i4)) (fun o5 => (spec_l03Counit.k0 N K) (.exit 0) (spec_l03Counit.sx0_0 h0 h1 v2 o5)) h0 h1 v2 out3 i4) := by
  have h := spec_l03Counit.b0_gen N K L0 (spec_l03Counit.k0 N K) h0 h1 v2 out3 i4
  rw [spec_l03Counit.k0_mix] at h
  exact h

theorem spec_l03Counit.a0_0_eq {ρ : Type} (N : Nat) (K : AV → Heap → Option ρ) (h0 : Nat → Int) (h1 : Nat → Int) (v2 : Nat → Int) (o5 : Int) :
    (spec_l03Counit.k0 N K) (.exit 0) (spec_l03Counit.sx0_0 h0 h1 v2 o5) = (spec_l03Counit.a0_0 N (fun d0 => K (.int .i64 (d0)) []) h0 o5) := by kernel_rfl

theorem spec_l03Counit.l0_eq {ρ : Type} (N : Nat) (K : AV → Heap → Option ρ) (h0 : Nat → Int) (h1 : Nat → Int) (v2 : Nat → Int) :
    ∀ (m : Nat) (out3 : Int) (i4 : Int), xloop (xcode (E29 N) ents spec_l03Counit.kp 0 N (cL (cK (cB (cA (cB (cB spec_l03Counit.bd)))))) 0) spec_l03Counit.kp 0 0 m (spec_l03Counit.st0 h0 h1 v2 out3 i4) (spec_l03Counit.k0 N K) = (spec_l03Counit.l0 N (fun d0 => K (.int .i64 (d0)) []) h0 h1 v2 (fun o5 => (spec_l03Counit.k0 N K) (.exit 0) (spec_l03Counit.sx0_0 h0 h1 v2 o5)) m out3 i4) := by
  intro m
  induction m with
  | zero => intros; rfl
  | succ m ih =>
    intro out3 i4
    refine (spec_l03Counit.b0_eq N K (fun s => xloop (xcode (E29 N) ents spec_l03Counit.kp 0 N (cL (cK (cB (cA (cB (cB spec_l03Counit.bd)))))) 0) spec_l03Counit.kp 0 0 m s (spec_l03Counit.k0 N K)) h0 h1 v2 out3 i4).trans ?_
    simp only [ih]
    kernel_rfl

theorem spec_l03Counit.s_eq {ρ : Type} (N : Nat) (K : AV → Heap → Option ρ) (h0 : Nat → Int) (h1 : Nat → Int) (v2 : Nat → Int) :
    xbody (E29 N) ents spec_l03Counit.kp N Go.Proofs.Try.f37 spec_l03Counit.bd [.agg [⟨.i64, 2, h0⟩, ⟨.u8, 1104, h1⟩], .agg [⟨.u8, 8, v2⟩]] [] K = (spec_l03Counit.s N (fun d0 => K (.int .i64 (d0)) []) (fun out3 i4 => xloop (xcode (E29 N) ents spec_l03Counit.kp 0 N (cL (cK (cB (cA (cB (cB spec_l03Counit.bd)))))) 0) spec_l03Counit.kp 0 0 N (spec_l03Counit.st0 h0 h1 v2 out3 i4) (spec_l03Counit.k0 N K))) := by kernel_rfl

theorem spec_l03Counit.eq {ρ : Type} (N : Nat) (K : AV → Heap → Option ρ) (h0 : Nat → Int) (h1 : Nat → Int) (v2 : Nat → Int) :
    xbody (E29 N) ents spec_l03Counit.kp N Go.Proofs.Try.f37 spec_l03Counit.bd [.agg [⟨.i64, 2, h0⟩, ⟨.u8, 1104, h1⟩], .agg [⟨.u8, 8, v2⟩]] [] K = (spec_l03Counit N (fun d0 => K (.int .i64 (d0)) []) h0 h1 v2) := by
  refine (spec_l03Counit.s_eq N K h0 h1 v2).trans ?_
  simp only [spec_l03Counit.l0_eq, spec_l03Counit.a0_0_eq]
  kernel_rfl

noncomputable def spec_l03Counit.en (N : Nat) (ρ : Type) : List AV → Heap → (AV → Heap → Option ρ) → Option ρ
  | [.agg [⟨.i64, 2, h0⟩, ⟨.u8, 1104, h1⟩], .agg [⟨.u8, 8, v2⟩]], [], K => (spec_l03Counit N (fun d0 => K (.int .i64 (d0)) []) h0 h1 v2)
  | _, _, _ => none

theorem spec_l03Counit.en_ok (N : Nat) (hE : EnvOk (E29 N) ents) (ρ : Type) (args : List AV) (sh : Heap) (K : AV → Heap → Option ρ) (r : ρ) (h : spec_l03Counit.en N ρ args sh K = some r) : ∃ v sh', K v sh' = some r ∧ FnOk (E29 N).P 37 args sh v sh' := by
  unfold spec_l03Counit.en at h
  split at h
  · exact fn_ok hE (kp := spec_l03Counit.kp) (N := N) Go.Proofs.Try.func37 (c := spec_l03Counit.bd) (by kernel_rfl) ((spec_l03Counit.eq N _ _ _ _).trans h)
  · cases h

noncomputable def E30 (N : Nat) : Env := (E29 N).add 37 (spec_l03Counit.en N)

theorem E30_ok (N : Nat) : EnvOk (E30 N) ents := Env.add_ok (E29_ok N) (spec_l03Counit.en_ok N (E29_ok N))

noncomputable def spec_l03Bialgebra.kp : Keeps := ⟨[(1, [1, 3, 5], 4), (3, [1, 3, 5, 6], 4), (5, [1, 3, 7, 8], 5), (7, [1, 3, 9], 5), (9, [1, 3, 9, 10], 5)], [(1, [1, 3], 4), (3, [1, 3, 5], 4), (5, [1, 3], 5), (7, [1], 5), (9, [1, 3, 9], 5)]⟩

noncomputable def spec_l03Bialgebra.bd : Code := bodyOf Go.Proofs.Try.f72

noncomputable def spec_l03Bialgebra.fin {ρ : Type} (N : Nat) (K : AV → Heap → Option ρ) : XE → St → Option ρ := finK (E30 N) Go.Proofs.Try.f72 [] K

noncomputable def spec_l03Bialgebra.k0 {ρ : Type} (N : Nat) (K : AV → Heap → Option ρ) : XE → St → Option ρ := (blockK spec_l03Bialgebra.kp 0 1 (seqK (xcode (E30 N) ents spec_l03Bialgebra.kp 0 N (cB (cB (cB (cB spec_l03Bialgebra.bd)))) 0) (spec_l03Bialgebra.fin N K)))

theorem spec_l03Bialgebra.k0_mix {ρ : Type} (N : Nat) (K : AV → Heap → Option ρ) : mixK (spec_l03Bialgebra.fin N K .ret) (spec_l03Bialgebra.k0 N K) = (spec_l03Bialgebra.k0 N K) := by
  funext e s; cases e <;> rfl

noncomputable def spec_l03Bialgebra.st0 (h0 : Nat → Int) (h1 : Nat → Int) (r2 : Nat → Int) (r3 : Nat → Int) (i8 : Int) : St := ⟨sl 115 [(1, .sptr [(0, 2), (1, 1104)]), (3, .int .i64 ((h0 1))), (5, .int .i64 (i8))], [⟨true, .ints .i64 2 h0⟩, ⟨true, .ints .u8 1104 h1⟩, ⟨true, .ints .i64 2 r2⟩, ⟨true, .ints .u8 520 r3⟩]⟩

noncomputable def spec_l03Bialgebra.sx0_0 (h0 : Nat → Int) (h1 : Nat → Int) (r2 : Nat → Int) (r3 : Nat → Int) : St := ⟨sl 115 [(1, .sptr [(0, 2), (1, 1104)]), (3, .int .i64 ((h0 1)))], [⟨true, .ints .i64 2 h0⟩, ⟨true, .ints .u8 1104 h1⟩, ⟨true, .ints .i64 2 r2⟩, ⟨true, .ints .u8 520 r3⟩]⟩

noncomputable def spec_l03Bialgebra.k1g {ρ : Type} (N : Nat) (L0 : St → Option ρ) (kv : XE → St → Option ρ) : XE → St → Option ρ := (blockK spec_l03Bialgebra.kp 0 3 (blockK spec_l03Bialgebra.kp 0 2 (seqK (xcode (E30 N) ents spec_l03Bialgebra.kp 0 N (cB (cB (cL (cK (cB (cA (cB (cB (cB spec_l03Bialgebra.bd))))))))) 1) (roundK spec_l03Bialgebra.kp 0 1 L0 kv))))

theorem spec_l03Bialgebra.k1_mix {ρ : Type} (N : Nat) (K : AV → Heap → Option ρ) (L0 : St → Option ρ) : mixK (spec_l03Bialgebra.fin N K .ret) (spec_l03Bialgebra.k1g N L0 (spec_l03Bialgebra.k0 N K)) = (spec_l03Bialgebra.k1g N L0 (spec_l03Bialgebra.k0 N K)) := by
  funext e s; cases e <;> rfl

noncomputable def spec_l03Bialgebra.st1 (h0 : Nat → Int) (h1 : Nat → Int) (r2 : Nat → Int) (r3 : Nat → Int) (i8 : Int) (j9 : Int) : St := ⟨sl 115 [(1, .sptr [(0, 2), (1, 1104)]), (3, .int .i64 ((h0 1))), (5, .int .i64 (i8)), (6, .int .i64 (j9))], [⟨true, .ints .i64 2 h0⟩, ⟨true, .ints .u8 1104 h1⟩, ⟨true, .ints .i64 2 r2⟩, ⟨true, .ints .u8 520 r3⟩]⟩

noncomputable def spec_l03Bialgebra.sx1_0 (h0 : Nat → Int) (h1 : Nat → Int) (r2 : Nat → Int) (r3 : Nat → Int) (i8 : Int) : St := ⟨sl 115 [(1, .sptr [(0, 2), (1, 1104)]), (3, .int .i64 ((h0 1))), (5, .int .i64 (i8))], [⟨true, .ints .i64 2 h0⟩, ⟨true, .ints .u8 1104 h1⟩, ⟨true, .ints .i64 2 r2⟩, ⟨true, .ints .u8 520 r3⟩]⟩

noncomputable def spec_l03Bialgebra.k2 {ρ : Type} (N : Nat) (K : AV → Heap → Option ρ) : XE → St → Option ρ := (blockK spec_l03Bialgebra.kp 0 5 (seqK (xcode (E30 N) ents spec_l03Bialgebra.kp 0 N (cB (cB (cB (cB (cB (cB spec_l03Bialgebra.bd)))))) 0) (spec_l03Bialgebra.fin N K)))

theorem spec_l03Bialgebra.k2_mix {ρ : Type} (N : Nat) (K : AV → Heap → Option ρ) : mixK (spec_l03Bialgebra.fin N K .ret) (spec_l03Bialgebra.k2 N K) = (spec_l03Bialgebra.k2 N K) := by
  funext e s; cases e <;> rfl

noncomputable def spec_l03Bialgebra.st2 (h0 : Nat → Int) (h1 : Nat → Int) (r2 : Nat → Int) (r3 : Nat → Int) (r12 : Nat → Int) (j13 : Int) : St := ⟨sl 115 [(1, .sptr [(0, 2), (1, 1104)]), (3, .int .i64 ((h0 1))), (7, .sptr [(4, 64)]), (8, .int .i64 (j13))], [⟨true, .ints .i64 2 h0⟩, ⟨true, .ints .u8 1104 h1⟩, ⟨true, .ints .i64 2 r2⟩, ⟨true, .ints .u8 520 r3⟩, ⟨true, .ints .u8 64 r12⟩]⟩

noncomputable def spec_l03Bialgebra.sx2_0 (h0 : Nat → Int) (h1 : Nat → Int) (r2 : Nat → Int) (r3 : Nat → Int) (r12 : Nat → Int) : St := ⟨sl 115 [(1, .sptr [(0, 2), (1, 1104)]), (3, .int .i64 ((h0 1)))], [⟨true, .ints .i64 2 h0⟩, ⟨true, .ints .u8 1104 h1⟩, ⟨true, .ints .i64 2 r2⟩, ⟨true, .ints .u8 520 r3⟩, ⟨true, .ints .u8 64 r12⟩]⟩

noncomputable def spec_l03Bialgebra.k3 {ρ : Type} (N : Nat) (K : AV → Heap → Option ρ) : XE → St → Option ρ := (blockK spec_l03Bialgebra.kp 0 7 (seqK (xcode (E30 N) ents spec_l03Bialgebra.kp 0 N (cB (cB (cB (cB (cB (cB (cB spec_l03Bialgebra.bd))))))) 0) (spec_l03Bialgebra.fin N K)))

theorem spec_l03Bialgebra.k3_mix {ρ : Type} (N : Nat) (K : AV → Heap → Option ρ) : mixK (spec_l03Bialgebra.fin N K .ret) (spec_l03Bialgebra.k3 N K) = (spec_l03Bialgebra.k3 N K) := by
  funext e s; cases e <;> rfl

noncomputable def spec_l03Bialgebra.st3 (h0 : Nat → Int) (h1 : Nat → Int) (r2 : Nat → Int) (r3 : Nat → Int) (r12 : Nat → Int) (i15 : Int) : St := ⟨sl 115 [(1, .sptr [(0, 2), (1, 1104)]), (3, .int .i64 ((h0 1))), (9, .int .i64 (i15))], [⟨true, .ints .i64 2 h0⟩, ⟨true, .ints .u8 1104 h1⟩, ⟨true, .ints .i64 2 r2⟩, ⟨true, .ints .u8 520 r3⟩, ⟨true, .ints .u8 64 r12⟩]⟩

noncomputable def spec_l03Bialgebra.sx3_0 (h0 : Nat → Int) (h1 : Nat → Int) (r2 : Nat → Int) (r3 : Nat → Int) (r12 : Nat → Int) : St := ⟨sl 115 [(1, .sptr [(0, 2), (1, 1104)])], [⟨true, .ints .i64 2 h0⟩, ⟨true, .ints .u8 1104 h1⟩, ⟨true, .ints .i64 2 r2⟩, ⟨true, .ints .u8 520 r3⟩, ⟨true, .ints .u8 64 r12⟩]⟩

noncomputable def spec_l03Bialgebra.k4g {ρ : Type} (N : Nat) (L3 : St → Option ρ) (kv : XE → St → Option ρ) : XE → St → Option ρ := (blockK spec_l03Bialgebra.kp 0 9 (blockK spec_l03Bialgebra.kp 0 8 (seqK (xcode (E30 N) ents spec_l03Bialgebra.kp 0 N (cB (cB (cL (cK (cB (cA (cB (cB (cB (cB (cB (cB spec_l03Bialgebra.bd)))))))))))) 7) (roundK spec_l03Bialgebra.kp 0 7 L3 kv))))

theorem spec_l03Bialgebra.k4_mix {ρ : Type} (N : Nat) (K : AV → Heap → Option ρ) (L3 : St → Option ρ) : mixK (spec_l03Bialgebra.fin N K .ret) (spec_l03Bialgebra.k4g N L3 (spec_l03Bialgebra.k3 N K)) = (spec_l03Bialgebra.k4g N L3 (spec_l03Bialgebra.k3 N K)) := by
  funext e s; cases e <;> rfl

noncomputable def spec_l03Bialgebra.st4 (h0 : Nat → Int) (h1 : Nat → Int) (r2 : Nat → Int) (r3 : Nat → Int) (r12 : Nat → Int) (i15 : Int) (j16 : Int) : St := ⟨sl 115 [(1, .sptr [(0, 2), (1, 1104)]), (3, .int .i64 ((h0 1))), (9, .int .i64 (i15)), (10, .int .i64 (j16))], [⟨true, .ints .i64 2 h0⟩, ⟨true, .ints .u8 1104 h1⟩, ⟨true, .ints .i64 2 r2⟩, ⟨true, .ints .u8 520 r3⟩, ⟨true, .ints .u8 64 r12⟩]⟩

noncomputable def spec_l03Bialgebra.sx4_0 (h0 : Nat → Int) (h1 : Nat → Int) (r2 : Nat → Int) (r3 : Nat → Int) (r12 : Nat → Int) (i15 : Int) : St := ⟨sl 115 [(1, .sptr [(0, 2), (1, 1104)]), (3, .int .i64 ((h0 1))), (9, .int .i64 (i15))], [⟨true, .ints .i64 2 h0⟩, ⟨true, .ints .u8 1104 h1⟩, ⟨true, .ints .i64 2 r2⟩, ⟨true, .ints .u8 520 r3⟩, ⟨true, .ints .u8 64 r12⟩]⟩

theorem spec_l03Bialgebra.b1_gen {ρ : Type} (N : Nat) (K : AV → Heap → Option ρ) (L1 : St → Option ρ) (kv : XE → St → Option ρ) (h0 : Nat → Int) (h1 : Nat → Int) (r2 : Nat → Int) (r3 : Nat → Int) (i8 : Int) (j9 : Int) :
    xcode (E30 N) ents spec_l03Bialgebra.kp 0 N (cL (cK (cB (cK (cA (cB (cL (cK (cB (cA (cB (cB (cB spec_l03Bialgebra.bd))))))))))))) 3 (spec_l03Bialgebra.st1 h0 h1 r2 r3 i8 j9) (roundK spec_l03Bialgebra.kp 0 3 L1 (mixK (spec_l03Bialgebra.fin N K .ret) kv)) = (spec_l03Bialgebra.b1 N (fun d0 => K (.int .i64 (d0)) []) (fun j9 => L1 (spec_l03Bialgebra.st1 h0 h1 r2 r3 i8 j9)) (kv (.exit 3) (spec_l03Bialgebra.sx1_0 h0 h1 r2 r3 i8)) h0 h1 i8 j9) := by kernel_rfl

theorem spec_l03Bialgebra.b1_eq {ρ : Type} (N : Nat) (K : AV → Heap → Option ρ) (L0 : St → Option ρ) (L1 : St → Option ρ) (h0 : Nat → Int) (h1 : Nat → Int) (r2 : Nat → Int) (r3 : Nat → Int) (i8 : Int) (j9 : Int) :
    xcode (E30 N) ents spec_l03Bialgebra.kp 0 N (cL (cK (cB (cK (cA (cB (cL (cK (cB (cA (cB (cB (cB spec_l03Bialgebra.bd))))))))))))) 3 (spec_l03Bialgebra.st1 h0 h1 r2 r3 i8 j9) (roundK spec_l03Bialgebra.kp 0 3 L1 (spec_l03Bialgebra.k1g N L0 (spec_l03Bialgebra.k0 N K))) = (spec_l03Bialgebra.b1 N (fun d0 => K (.int .i64 (d0)) []) (fun j9 => L1 (spec_l03Bialgebra.st1 h0 h1 r2 r3 i8 j9)) ((spec_l03Bialgebra.k1g N L0 (spec_l03Bialgebra.k0 N K)) (.exit 3) (spec_l03Bialgebra.sx1_0 h0 h1 r2 r3 i8)) h0 h1 i8 j9) := by
  have h := spec_l03Bialgebra.b1_gen N K L1 (spec_l03Bialgebra.k1g N L0 (spec_l03Bialgebra.k0 N K)) h0 h1 r2 r3 i8 j9
  rw [spec_l03Bialgebra.k1_mix] at h
  exact h

theorem spec_l03Bialgebra.a1_0_gen {ρ : Type} (N : Nat) (K : AV → Heap → Option ρ) (L0 : St → Option ρ) (kv : XE → St → Option ρ) (h0 : Nat → Int) (h1 : Nat → Int) (r2 : Nat → Int) (r3 : Nat → Int) (i8 : Int) :
    (spec_l03Bialgebra.k1g N L0 (mixK (spec_l03Bialgebra.fin N K .ret) kv)) (.exit 3) (spec_l03Bialgebra.sx1_0 h0 h1 r2 r3 i8) = (spec_l03Bialgebra.a1_0 N (fun d0 => K (.int .i64 (d0)) []) (fun i8 => L0 (spec_l03Bialgebra.st0 h0 h1 r2 r3 i8)) (kv (.exit 1) (spec_l03Bialgebra.sx0_0 h0 h1 r2 r3)) i8) := by kernel_rfl

theorem spec_l03Bialgebra.a1_0_eq {ρ : Type} (N : Nat) (K : AV → Heap → Option ρ) (L0 : St → Option ρ) (h0 : Nat → Int) (h1 : Nat → Int) (r2 : Nat → Int) (r3 : Nat → Int) (i8 : Int) :
    (spec_l03Bialgebra.k1g N L0 (spec_l03Bialgebra.k0 N K)) (.exit 3) (spec_l03Bialgebra.sx1_0 h0 h1 r2 r3 i8) = (spec_l03Bialgebra.a1_0 N (fun d0 => K (.int .i64 (d0)) []) (fun i8 => L0 (spec_l03Bialgebra.st0 h0 h1 r2 r3 i8)) ((spec_l03Bialgebra.k0 N K) (.exit 1) (spec_l03Bialgebra.sx0_0 h0 h1 r2 r3)) i8) := by
  have h := spec_l03Bialgebra.a1_0_gen N K L0 (spec_l03Bialgebra.k0 N K) h0 h1 r2 r3 i8
  rw [spec_l03Bialgebra.k0_mix] at h
  exact h

theorem spec_l03Bialgebra.b4_gen {ρ : Type} (N : Nat) (K : AV → Heap → Option ρ) (L4 : St → Option ρ) (kv : XE → St → Option ρ) (h0 : Nat → Int) (h1 : Nat → Int) (r2 : Nat → Int) (r3 : Nat → Int) (r12 : Nat → Int) (i15 : Int) (j16 : Int) :
    xcode (E30 N) ents spec_l03Bialgebra.kp 0 N (cL (cK (cB (cK (cA (cB (cL (cK (cB (cA (cB (cB (cB (cB (cB (cB spec_l03Bialgebra.bd)))))))))))))))) 9 (spec_l03Bialgebra.st4 h0 h1 r2 r3 r12 i15 j16) (roundK spec_l03Bialgebra.kp 0 9 L4 (mixK (spec_l03Bialgebra.fin N K .ret) kv)) = (spec_l03Bialgebra.b4 N (fun d0 => K (.int .i64 (d0)) []) (fun j16 => L4 (spec_l03Bialgebra.st4 h0 h1 r2 r3 r12 i15 j16)) (kv (.exit 9) (spec_l03Bialgebra.sx4_0 h0 h1 r2 r3 r12 i15)) h0 h1 i15 j16) := by kernel_rfl

theorem spec_l03Bialgebra.b4_eq {ρ : Type} (N : Nat) (K : AV → Heap → Option ρ) (L3 : St → Option ρ) (L4 : St → Option ρ) (h0 : Nat → Int) (h1 : Nat → Int) (r2 : Nat → Int) (r3 : Nat → Int) (r12 : Nat → Int) (i15 : Int) (j16 : Int) :
    xcode (E30 N) ents spec_l03Bialgebra.kp 0 N (cL (cK (cB (cK (cA (cB (cL (cK (cB (cA (cB (cB (cB (cB (cB (cB spec_l03Bialgebra.bd)))))))))))))))) 9 (spec_l03Bialgebra.st4 h0 h1 r2 r3 r12 i15 j16) (roundK spec_l03Bialgebra.kp 0 9 L4 (spec_l03Bialgebra.k4g N L3 (spec_l03Bialgebra.k3 N K))) = (spec_l03Bialgebra.b4 N (fun d0 => K (.int .i64 (d0)) []) (fun j16 => L4 (spec_l03Bialgebra.st4 h0 h1 r2 r3 r12 i15 j16)) ((spec_l03Bialgebra.k4g N L3 (spec_l03Bialgebra.k3 N K)) (.exit 9) (spec_l03Bialgebra.sx4_0 h0 h1 r2 r3 r12 i15)) h0 h1 i15 j16) := by
  have h := spec_l03Bialgebra.b4_gen N K L4 (spec_l03Bialgebra.k4g N L3 (spec_l03Bialgebra.k3 N K)) h0 h1 r2 r3 r12 i15 j16
  rw [spec_l03Bialgebra.k4_mix] at h
  exact h

theorem spec_l03Bialgebra.a4_0_gen {ρ : Type} (N : Nat) (K : AV → Heap → Option ρ) (L3 : St → Option ρ) (kv : XE → St → Option ρ) (h0 : Nat → Int) (h1 : Nat → Int) (r2 : Nat → Int) (r3 : Nat → Int) (r12 : Nat → Int) (i15 : Int) :
    (spec_l03Bialgebra.k4g N L3 (mixK (spec_l03Bialgebra.fin N K .ret) kv)) (.exit 9) (spec_l03Bialgebra.sx4_0 h0 h1 r2 r3 r12 i15) = (spec_l03Bialgebra.a4_0 N (fun d0 => K (.int .i64 (d0)) []) (fun i15 => L3 (spec_l03Bialgebra.st3 h0 h1 r2 r3 r12 i15)) (kv (.exit 7) (spec_l03Bialgebra.sx3_0 h0 h1 r2 r3 r12)) i15) := by kernel_rfl

theorem spec_l03Bialgebra.a4_0_eq {ρ : Type} (N : Nat) (K : AV → Heap → Option ρ) (L3 : St → Option ρ) (h0 : Nat → Int) (h1 : Nat → Int) (r2 : Nat → Int) (r3 : Nat → Int) (r12 : Nat → Int) (i15 : Int) :
    (spec_l03Bialgebra.k4g N L3 (spec_l03Bialgebra.k3 N K)) (.exit 9) (spec_l03Bialgebra.sx4_0 h0 h1 r2 r3 r12 i15) = (spec_l03Bialgebra.a4_0 N (fun d0 => K (.int .i64 (d0)) []) (fun i15 => L3 (spec_l03Bialgebra.st3 h0 h1 r2 r3 r12 i15)) ((spec_l03Bialgebra.k3 N K) (.exit 7) (spec_l03Bialgebra.sx3_0 h0 h1 r2 r3 r12)) i15) := by
  have h := spec_l03Bialgebra.a4_0_gen N K L3 (spec_l03Bialgebra.k3 N K) h0 h1 r2 r3 r12 i15
  rw [spec_l03Bialgebra.k3_mix] at h
  exact h

theorem spec_l03Bialgebra.b3_gen {ρ : Type} (N : Nat) (K : AV → Heap → Option ρ) (L3 : St → Option ρ) (kv : XE → St → Option ρ) (h0 : Nat → Int) (h1 : Nat → Int) (r2 : Nat → Int) (r3 : Nat → Int) (r12 : Nat → Int) (i15 : Int) :
    xcode (E30 N) ents spec_l03Bialgebra.kp 0 N (cL (cK (cB (cA (cB (cB (cB (cB (cB (cB spec_l03Bialgebra.bd)))))))))) 7 (spec_l03Bialgebra.st3 h0 h1 r2 r3 r12 i15) (roundK spec_l03Bialgebra.kp 0 7 L3 (mixK (spec_l03Bialgebra.fin N K .ret) kv)) = (spec_l03Bialgebra.b3 N (fun d0 => K (.int .i64 (d0)) []) (fun j16 => xloop (xcode (E30 N) ents spec_l03Bialgebra.kp 0 N (cL (cK (cB (cK (cA (cB (cL (cK (cB (cA (cB (cB (cB (cB (cB (cB spec_l03Bialgebra.bd)))))))))))))))) 9) spec_l03Bialgebra.kp 0 9 N (spec_l03Bialgebra.st4 h0 h1 r2 r3 r12 i15 j16) (spec_l03Bialgebra.k4g N L3 (mixK (spec_l03Bialgebra.fin N K .ret) kv))) (fun i15 => L3 (spec_l03Bialgebra.st3 h0 h1 r2 r3 r12 i15)) (kv (.exit 7) (spec_l03Bialgebra.sx3_0 h0 h1 r2 r3 r12)) h0 i15) := by kernel_rfl

theorem spec_l03Bialgebra.b3_eq {ρ : Type} (N : Nat) (K : AV → Heap → Option ρ) (L3 : St → Option ρ) (h0 : Nat → Int) (h1 : Nat → Int) (r2 : Nat → Int) (r3 : Nat → Int) (r12 : Nat → Int) (i15 : Int) :
    xcode (E30 N) ents spec_l03Bialgebra.kp 0 N (cL (cK (cB (cA (cB (cB (cB (cB (cB (cB spec_l03Bialgebra.bd)))))))))) 7 (spec_l03Bialgebra.st3 h0 h1 r2 r3 r12 i15) (roundK spec_l03Bialgebra.kp 0 7 L3 (spec_l03Bialgebra.k3 N K)) = (spec_l03Bialgebra.b3 N (fun d0 => K (.int .i64 (d0)) []) (fun j16 => xloop (xcode (E30 N) ents spec_l03Bialgebra.kp 0 N (cL (cK (cB (cK (cA (cB (cL (cK (cB (cA (cB (cB (cB (cB (cB (cB spec_l03Bialgebra.bd)))))))))))))))) 9) spec_l03Bialgebra.kp 0 9 N (spec_l03Bialgebra.st4 h0 h1 r2 r3 r12 i15 j16) (spec_l03Bialgebra.k4g N L3 (spec_l03Bialgebra.k3 N K))) (fun i15 => L3 (spec_l03Bialgebra.st3 h0 h1 r2 r3 r12 i15)) ((spec_l03Bialgebra.k3 N K) (.exit 7) (spec_l03Bialgebra.sx3_0 h0 h1 r2 r3 r12)) h0 i15) := by
  have h := spec_l03Bialgebra.b3_gen N K L3 (spec_l03Bialgebra.k3 N K) h0 h1 r2 r3 r12 i15
  rw [spec_l03Bialgebra.k3_mix] at h
  exact h

theorem spec_l03Bialgebra.a3_0_eq {ρ : Type} (N : Nat) (K : AV → Heap → Option ρ) (h0 : Nat → Int) (h1 : Nat → Int) (r2 : Nat → Int) (r3 : Nat → Int) (r12 : Nat → Int) :
    (spec_l03Bialgebra.k3 N K) (.exit 7) (spec_l03Bialgebra.sx3_0 h0 h1 r2 r3 r12) = (spec_l03Bialgebra.a3_0 N (fun d0 => K (.int .i64 (d0)) []) h0 h1) := by kernel_rfl

theorem spec_l03Bialgebra.b2_gen {ρ : Type} (N : Nat) (K : AV → Heap → Option ρ) (L2 : St → Option ρ) (kv : XE → St → Option ρ) (h0 : Nat → Int) (h1 : Nat → Int) (r2 : Nat → Int) (r3 : Nat → Int) (r12 : Nat → Int) (j13 : Int) :
    xcode (E30 N) ents spec_l03Bialgebra.kp 0 N (cL (cK (cB (cA (cB (cB (cB (cB (cB spec_l03Bialgebra.bd))))))))) 5 (spec_l03Bialgebra.st2 h0 h1 r2 r3 r12 j13) (roundK spec_l03Bialgebra.kp 0 5 L2 (mixK (spec_l03Bialgebra.fin N K .ret) kv)) = (spec_l03Bialgebra.b2 N (fun d0 => K (.int .i64 (d0)) []) (fun j13 => L2 (spec_l03Bialgebra.st2 h0 h1 r2 r3 r12 j13)) (kv (.exit 5) (spec_l03Bialgebra.sx2_0 h0 h1 r2 r3 r12)) h0 h1 r12 j13) := by kernel_rfl

theorem spec_l03Bialgebra.b2_eq {ρ : Type} (N : Nat) (K : AV → Heap → Option ρ) (L2 : St → Option ρ) (h0 : Nat → Int) (h1 : Nat → Int) (r2 : Nat → Int) (r3 : Nat → Int) (r12 : Nat → Int) (j13 : Int) :
    xcode (E30 N) ents spec_l03Bialgebra.kp 0 N (cL (cK (cB (cA (cB (cB (cB (cB (cB spec_l03Bialgebra.bd))))))))) 5 (spec_l03Bialgebra.st2 h0 h1 r2 r3 r12 j13) (roundK spec_l03Bialgebra.kp 0 5 L2 (spec_l03Bialgebra.k2 N K)) = (spec_l03Bialgebra.b2 N (fun d0 => K (.int .i64 (d0)) []) (fun j13 => L2 (spec_l03Bialgebra.st2 h0 h1 r2 r3 r12 j13)) ((spec_l03Bialgebra.k2 N K) (.exit 5) (spec_l03Bialgebra.sx2_0 h0 h1 r2 r3 r12)) h0 h1 r12 j13) := by
  have h := spec_l03Bialgebra.b2_gen N K L2 (spec_l03Bialgebra.k2 N K) h0 h1 r2 r3 r12 j13
  rw [spec_l03Bialgebra.k2_mix] at h
  exact h

theorem spec_l03Bialgebra.a2_0_eq {ρ : Type} (N : Nat) (K : AV → Heap → Option ρ) (h0 : Nat → Int) (h1 : Nat → Int) (r2 : Nat → Int) (r3 : Nat → Int) (r12 : Nat → Int) :
    (spec_l03Bialgebra.k2 N K) (.exit 5) (spec_l03Bialgebra.sx2_0 h0 h1 r2 r3 r12) = (spec_l03Bialgebra.a2_0 N (fun d0 => K (.int .i64 (d0)) []) (fun i15 => xloop (xcode (E30 N) ents spec_l03Bialgebra.kp 0 N (cL (cK (cB (cA (cB (cB (cB (cB (cB (cB spec_l03Bialgebra.bd)))))))))) 7) spec_l03Bialgebra.kp 0 7 N (spec_l03Bialgebra.st3 h0 h1 r2 r3 r12 i15) (spec_l03Bialgebra.k3 N K))) := by kernel_rfl

theorem spec_l03Bialgebra.b0_gen {ρ : Type} (N : Nat) (K : AV → Heap → Option ρ) (L0 : St → Option ρ) (kv : XE → St → Option ρ) (h0 : Nat → Int) (h1 : Nat → Int) (r2 : Nat → Int) (r3 : Nat → Int) (i8 : Int) :
    xcode (E30 N) ents spec_l03Bialgebra.kp 0 N (cL (cK (cB (cA (cB (cB (cB spec_l03Bialgebra.bd))))))) 1 (spec_l03Bialgebra.st0 h0 h1 r2 r3 i8) (roundK spec_l03Bialgebra.kp 0 1 L0 (mixK (spec_l03Bialgebra.fin N K .ret) kv)) = (spec_l03Bialgebra.b0 N (fun d0 => K (.int .i64 (d0)) []) (fun j9 => xloop (xcode (E30 N) ents spec_l03Bialgebra.kp 0 N (cL (cK (cB (cK (cA (cB (cL (cK (cB (cA (cB (cB (cB spec_l03Bialgebra.bd))))))))))))) 3) spec_l03Bialgebra.kp 0 3 N (spec_l03Bialgebra.st1 h0 h1 r2 r3 i8 j9) (spec_l03Bialgebra.k1g N L0 (mixK (spec_l03Bialgebra.fin N K .ret) kv))) (fun i8 => L0 (spec_l03Bialgebra.st0 h0 h1 r2 r3 i8)) (kv (.exit 1) (spec_l03Bialgebra.sx0_0 h0 h1 r2 r3)) h0 i8) := by kernel_rfl

theorem spec_l03Bialgebra.b0_eq {ρ : Type} (N : Nat) (K : AV → Heap → Option ρ) (L0 : St → Option ρ) (h0 : Nat → Int) (h1 : Nat → Int) (r2 : Nat → Int) (r3 : Nat → Int) (i8 : Int) :
    xcode (E30 N) ents spec_l03Bialgebra.kp 0 N (cL (cK (cB (cA (cB (cB (cB spec_l03Bialgebra.bd))))))) 1 (spec_l03Bialgebra.st0 h0 h1 r2 r3 i8) (roundK spec_l03Bialgebra.kp 0 1 L0 (spec_l03Bialgebra.k0 N K)) = (spec_l03Bialgebra.b0 N (fun d0 => K (.int .i64 (d0)) []) (fun j9 => xloop (xcode (E30 N) ents spec_l03Bialgebra.kp 0 N (cL (cK (cB (cK (cA (cB (cL (cK (cB (cA (cB (cB (cB spec_l03Bialgebra.bd))))))))))))) 3) spec_l03Bialgebra.kp 0 3 N (spec_l03Bialgebra.st1 h0 h1 r2 r3 i8 j9) (spec_l03Bialgebra.k1g N L0 (spec_l03Bialgebra.k0 N K))) (fun i8 => L0 (spec_l03Bialgebra.st0 h0 h1 r2 r3 i8)) ((spec_l03Bialgebra.k0 N K) (.exit 1) (spec_l03Bialgebra.sx0_0 h0 h1 r2 r3)) h0 i8) := by
  have h := spec_l03Bialgebra.b0_gen N K L0 (spec_l03Bialgebra.k0 N K) h0 h1 r2 r3 i8
  rw [spec_l03Bialgebra.k0_mix] at h
  exact h

theorem spec_l03Bialgebra.a0_0_eq {ρ : Type} (N : Nat) (K : AV → Heap → Option ρ) (h0 : Nat → Int) (h1 : Nat → Int) (r2 : Nat → Int) (r3 : Nat → Int) :
    (spec_l03Bialgebra.k0 N K) (.exit 1) (spec_l03Bialgebra.sx0_0 h0 h1 r2 r3) = (spec_l03Bialgebra.a0_0 N (fun d0 => K (.int .i64 (d0)) []) (fun r12 j13 => xloop (xcode (E30 N) ents spec_l03Bialgebra.kp 0 N (cL (cK (cB (cA (cB (cB (cB (cB (cB spec_l03Bialgebra.bd))))))))) 5) spec_l03Bialgebra.kp 0 5 N (spec_l03Bialgebra.st2 h0 h1 r2 r3 r12 j13) (spec_l03Bialgebra.k2 N K)) h0 h1) := by kernel_rfl

theorem spec_l03Bialgebra.l1_eq {ρ : Type} (N : Nat) (K : AV → Heap → Option ρ) (L0 : St → Option ρ) (h0 : Nat → Int) (h1 : Nat → Int) (r2 : Nat → Int) (r3 : Nat → Int) (i8 : Int) :
    ∀ (m : Nat) (j9 : Int), xloop (xcode (E30 N) ents spec_l03Bialgebra.kp 0 N (cL (cK (cB (cK (cA (cB (cL (cK (cB (cA (cB (cB (cB spec_l03Bialgebra.bd))))))))))))) 3) spec_l03Bialgebra.kp 0 3 m (spec_l03Bialgebra.st1 h0 h1 r2 r3 i8 j9) (spec_l03Bialgebra.k1g N L0 (spec_l03Bialgebra.k0 N K)) = (spec_l03Bialgebra.l1 N (fun d0 => K (.int .i64 (d0)) []) h0 h1 i8 ((spec_l03Bialgebra.k1g N L0 (spec_l03Bialgebra.k0 N K)) (.exit 3) (spec_l03Bialgebra.sx1_0 h0 h1 r2 r3 i8)) m j9) := by
  intro m
  induction m with
  | zero => intros; rfl
  | succ m ih =>
    intro j9
    refine (spec_l03Bialgebra.b1_eq N K L0 (fun s => xloop (xcode (E30 N) ents spec_l03Bialgebra.kp 0 N (cL (cK (cB (cK (cA (cB (cL (cK (cB (cA (cB (cB (cB spec_l03Bialgebra.bd))))))))))))) 3) spec_l03Bialgebra.kp 0 3 m s (spec_l03Bialgebra.k1g N L0 (spec_l03Bialgebra.k0 N K))) h0 h1 r2 r3 i8 j9).trans ?_
    simp only [ih]
    kernel_rfl

theorem spec_l03Bialgebra.l4_eq {ρ : Type} (N : Nat) (K : AV → Heap → Option ρ) (L3 : St → Option ρ) (h0 : Nat → Int) (h1 : Nat → Int) (r2 : Nat → Int) (r3 : Nat → Int) (r12 : Nat → Int) (i15 : Int) :
    ∀ (m : Nat) (j16 : Int), xloop (xcode (E30 N) ents spec_l03Bialgebra.kp 0 N (cL (cK (cB (cK (cA (cB (cL (cK (cB (cA (cB (cB (cB (cB (cB (cB spec_l03Bialgebra.bd)))))))))))))))) 9) spec_l03Bialgebra.kp 0 9 m (spec_l03Bialgebra.st4 h0 h1 r2 r3 r12 i15 j16) (spec_l03Bialgebra.k4g N L3 (spec_l03Bialgebra.k3 N K)) = (spec_l03Bialgebra.l4 N (fun d0 => K (.int .i64 (d0)) []) h0 h1 i15 ((spec_l03Bialgebra.k4g N L3 (spec_l03Bialgebra.k3 N K)) (.exit 9) (spec_l03Bialgebra.sx4_0 h0 h1 r2 r3 r12 i15)) m j16) := by
  intro m
  induction m with
  | zero => intros; rfl
  | succ m ih =>
    intro j16
    refine (spec_l03Bialgebra.b4_eq N K L3 (fun s => xloop (xcode (E30 N) ents spec_l03Bialgebra.kp 0 N (cL (cK (cB (cK (cA (cB (cL (cK (cB (cA (cB (cB (cB (cB (cB (cB spec_l03Bialgebra.bd)))))))))))))))) 9) spec_l03Bialgebra.kp 0 9 m s (spec_l03Bialgebra.k4g N L3 (spec_l03Bialgebra.k3 N K))) h0 h1 r2 r3 r12 i15 j16).trans ?_
    simp only [ih]
    kernel_rfl

theorem spec_l03Bialgebra.l3_eq {ρ : Type} (N : Nat) (K : AV → Heap → Option ρ) (h0 : Nat → Int) (h1 : Nat → Int) (r2 : Nat → Int) (r3 : Nat → Int) (r12 : Nat → Int) :
    ∀ (m : Nat) (i15 : Int), xloop (xcode (E30 N) ents spec_l03Bialgebra.kp 0 N (cL (cK (cB (cA (cB (cB (cB (cB (cB (cB spec_l03Bialgebra.bd)))))))))) 7) spec_l03Bialgebra.kp 0 7 m (spec_l03Bialgebra.st3 h0 h1 r2 r3 r12 i15) (spec_l03Bialgebra.k3 N K) = (spec_l03Bialgebra.l3 N (fun d0 => K (.int .i64 (d0)) []) h0 h1 ((spec_l03Bialgebra.k3 N K) (.exit 7) (spec_l03Bialgebra.sx3_0 h0 h1 r2 r3 r12)) m i15) := by
  intro m
  induction m with
  | zero => intros; rfl
  | succ m ih =>
    intro i15
    refine (spec_l03Bialgebra.b3_eq N K (fun s => xloop (xcode (E30 N) ents spec_l03Bialgebra.kp 0 N (cL (cK (cB (cA (cB (cB (cB (cB (cB (cB spec_l03Bialgebra.bd)))))))))) 7) spec_l03Bialgebra.kp 0 7 m s (spec_l03Bialgebra.k3 N K)) h0 h1 r2 r3 r12 i15).trans ?_
    simp only [ih, spec_l03Bialgebra.l4_eq, spec_l03Bialgebra.a4_0_eq]
    kernel_rfl

theorem spec_l03Bialgebra.l2_eq {ρ : Type} (N : Nat) (K : AV → Heap → Option ρ) (h0 : Nat → Int) (h1 : Nat → Int) (r2 : Nat → Int) (r3 : Nat → Int) (r12 : Nat → Int) :
    ∀ (m : Nat) (j13 : Int), xloop (xcode (E30 N) ents spec_l03Bialgebra.kp 0 N (cL (cK (cB (cA (cB (cB (cB (cB (cB spec_l03Bialgebra.bd))))))))) 5) spec_l03Bialgebra.kp 0 5 m (spec_l03Bialgebra.st2 h0 h1 r2 r3 r12 j13) (spec_l03Bialgebra.k2 N K) = (spec_l03Bialgebra.l2 N (fun d0 => K (.int .i64 (d0)) []) h0 h1 r12 ((spec_l03Bialgebra.k2 N K) (.exit 5) (spec_l03Bialgebra.sx2_0 h0 h1 r2 r3 r12)) m j13) := by
  intro m
  induction m with
  | zero => intros; rfl
  | succ m ih =>
    intro j13
    refine (spec_l03Bialgebra.b2_eq N K (fun s => xloop (xcode (E30 N) ents spec_l03Bialgebra.kp 0 N (cL (cK (cB (cA (cB (cB (cB (cB (cB spec_l03Bialgebra.bd))))))))) 5) spec_l03Bialgebra.kp 0 5 m s (spec_l03Bialgebra.k2 N K)) h0 h1 r2 r3 r12 j13).trans ?_
    simp only [ih]
    kernel_rfl

theorem spec_l03Bialgebra.l0_eq {ρ : Type} (N : Nat) (K : AV → Heap → Option ρ) (h0 : Nat → Int) (h1 : Nat → Int) (r2 : Nat → Int) (r3 : Nat → Int) :
    ∀ (m : Nat) (i8 : Int), xloop (xcode (E30 N) ents spec_l03Bialgebra.kp 0 N (cL (cK (cB (cA (cB (cB (cB spec_l03Bialgebra.bd))))))) 1) spec_l03Bialgebra.kp 0 1 m (spec_l03Bialgebra.st0 h0 h1 r2 r3 i8) (spec_l03Bialgebra.k0 N K) = (spec_l03Bialgebra.l0 N (fun d0 => K (.int .i64 (d0)) []) h0 h1 ((spec_l03Bialgebra.k0 N K) (.exit 1) (spec_l03Bialgebra.sx0_0 h0 h1 r2 r3)) m i8) := by
  intro m
  induction m with
  | zero => intros; rfl
  | succ m ih =>
    intro i8
    refine (spec_l03Bialgebra.b0_eq N K (fun s => xloop (xcode (E30 N) ents spec_l03Bialgebra.kp 0 N (cL (cK (cB (cA (cB (cB (cB spec_l03Bialgebra.bd))))))) 1) spec_l03Bialgebra.kp 0 1 m s (spec_l03Bialgebra.k0 N K)) h0 h1 r2 r3 i8).trans ?_
    simp only [ih, spec_l03Bialgebra.l1_eq, spec_l03Bialgebra.a1_0_eq]
    kernel_rfl

theorem spec_l03Bialgebra.s_eq {ρ : Type} (N : Nat) (K : AV → Heap → Option ρ) (h0 : Nat → Int) (h1 : Nat → Int) :
    xbody (E30 N) ents spec_l03Bialgebra.kp N Go.Proofs.Try.f72 spec_l03Bialgebra.bd [.agg [⟨.i64, 2, h0⟩, ⟨.u8, 1104, h1⟩]] [] K = (spec_l03Bialgebra.s N (fun d0 => K (.int .i64 (d0)) []) (fun r2 r3 i8 => xloop (xcode (E30 N) ents spec_l03Bialgebra.kp 0 N (cL (cK (cB (cA (cB (cB (cB spec_l03Bialgebra.bd))))))) 1) spec_l03Bialgebra.kp 0 1 N (spec_l03Bialgebra.st0 h0 h1 r2 r3 i8) (spec_l03Bialgebra.k0 N K)) h0 h1) := by kernel_rfl

theorem spec_l03Bialgebra.eq {ρ : Type} (N : Nat) (K : AV → Heap → Option ρ) (h0 : Nat → Int) (h1 : Nat → Int) :
    xbody (E30 N) ents spec_l03Bialgebra.kp N Go.Proofs.Try.f72 spec_l03Bialgebra.bd [.agg [⟨.i64, 2, h0⟩, ⟨.u8, 1104, h1⟩]] [] K = (spec_l03Bialgebra N (fun d0 => K (.int .i64 (d0)) []) h0 h1) := by
  refine (spec_l03Bialgebra.s_eq N K h0 h1).trans ?_
  simp only [spec_l03Bialgebra.l0_eq, spec_l03Bialgebra.a0_0_eq, spec_l03Bialgebra.l2_eq, spec_l03Bialgebra.a2_0_eq, spec_l03Bialgebra.l3_eq, spec_l03Bialgebra.a3_0_eq]
  kernel_rfl

noncomputable def spec_l03Bialgebra.en (N : Nat) (ρ : Type) : List AV → Heap → (AV → Heap → Option ρ) → Option ρ
  | [.agg [⟨.i64, 2, h0⟩, ⟨.u8, 1104, h1⟩]], [], K => (spec_l03Bialgebra N (fun d0 => K (.int .i64 (d0)) []) h0 h1)
  | _, _, _ => none

theorem spec_l03Bialgebra.en_ok (N : Nat) (hE : EnvOk (E30 N) ents) (ρ : Type) (args : List AV) (sh : Heap) (K : AV → Heap → Option ρ) (r : ρ) (h : spec_l03Bialgebra.en N ρ args sh K = some r) : ∃ v sh', K v sh' = some r ∧ FnOk (E30 N).P 72 args sh v sh' := by
  unfold spec_l03Bialgebra.en at h
  split at h
  · exact fn_ok hE (kp := spec_l03Bialgebra.kp) (N := N) Go.Proofs.Try.func72 (c := spec_l03Bialgebra.bd) (by kernel_rfl) ((spec_l03Bialgebra.eq N _ _ _).trans h)
  · cases h

noncomputable def E31 (N : Nat) : Env := (E30 N).add 72 (spec_l03Bialgebra.en N)

theorem E31_ok (N : Nat) : EnvOk (E31 N) ents := Env.add_ok (E30_ok N) (spec_l03Bialgebra.en_ok N (E30_ok N))

noncomputable def spec_l03Folded.kp : Keeps := ⟨[(0, [1, 3, 4, 6, 8, 9, 10, 11], 7), (2, [1, 3, 4, 6, 8, 9, 10, 11, 12], 7)], [(0, [8, 9], 7), (2, [1, 3, 4, 6, 8, 9, 10, 11], 7)]⟩

noncomputable def spec_l03Folded.bd : Code := bodyOf Go.Proofs.Try.f94

noncomputable def spec_l03Folded.fin {ρ : Type} (N : Nat) (K : AV → Heap → Option ρ) : XE → St → Option ρ := finK (E31 N) Go.Proofs.Try.f94 [] K

noncomputable def spec_l03Folded.k0 {ρ : Type} (N : Nat) (K : AV → Heap → Option ρ) : XE → St → Option ρ := (blockK spec_l03Folded.kp 0 0 (seqK (xcode (E31 N) ents spec_l03Folded.kp 0 N (cB (cB (cB spec_l03Folded.bd))) 0) (spec_l03Folded.fin N K)))

theorem spec_l03Folded.k0_mix {ρ : Type} (N : Nat) (K : AV → Heap → Option ρ) : mixK (spec_l03Folded.fin N K .ret) (spec_l03Folded.k0 N K) = (spec_l03Folded.k0 N K) := by
  funext e s; cases e <;> rfl

noncomputable def spec_l03Folded.st0 (h0 : Nat → Int) (h1 : Nat → Int) (i2 : Int) (s3 : Nat → Int) (behind4 : Bool) (r5 : Nat → Int) (r6 : Nat → Int) (j7 : Int) (g8 : Nat → Int) : St := ⟨sl 63 [(1, .int .i64 (i2)), (3, .bool (behind4)), (4, .sptr [(0, 2), (1, 1104)]), (6, .sptr [(2, 64)]), (8, .sptr [(3, 8)]), (9, .sptr [(4, 8)]), (10, .sptr [(5, 2), (6, 520)]), (11, .int .i64 (j7))], [⟨true, .ints .i64 2 h0⟩, ⟨true, .ints .u8 1104 h1⟩, ⟨true, .ints .u8 64 s3⟩, ⟨true, .ints .u8 8 (fun _ => 0)⟩, ⟨true, .ints .u8 8 g8⟩, ⟨true, .ints .i64 2 r5⟩, ⟨true, .ints .u8 520 r6⟩]⟩

noncomputable def spec_l03Folded.sx0_0 (h0 : Nat → Int) (h1 : Nat → Int) (s3 : Nat → Int) (r5 : Nat → Int) (r6 : Nat → Int) (o18 : Nat → Int) : St := ⟨sl 63 [(8, .sptr [(3, 8)]), (9, .sptr [(4, 8)])], [⟨true, .ints .i64 2 h0⟩, ⟨true, .ints .u8 1104 h1⟩, ⟨true, .ints .u8 64 s3⟩, ⟨true, .ints .u8 8 (fun _ => 0)⟩, ⟨true, .ints .u8 8 o18⟩, ⟨true, .ints .i64 2 r5⟩, ⟨true, .ints .u8 520 r6⟩]⟩

noncomputable def spec_l03Folded.k1g {ρ : Type} (N : Nat) (L0 : St → Option ρ) (kv : XE → St → Option ρ) : XE → St → Option ρ := (blockK spec_l03Folded.kp 0 2 (blockK spec_l03Folded.kp 0 1 (seqK (xcode (E31 N) ents spec_l03Folded.kp 0 N (cB (cB (cL (cK (cB (cA (cB (cB spec_l03Folded.bd)))))))) 0) (roundK spec_l03Folded.kp 0 0 L0 kv))))

theorem spec_l03Folded.k1_mix {ρ : Type} (N : Nat) (K : AV → Heap → Option ρ) (L0 : St → Option ρ) : mixK (spec_l03Folded.fin N K .ret) (spec_l03Folded.k1g N L0 (spec_l03Folded.k0 N K)) = (spec_l03Folded.k1g N L0 (spec_l03Folded.k0 N K)) := by
  funext e s; cases e <;> rfl

noncomputable def spec_l03Folded.st1 (h0 : Nat → Int) (h1 : Nat → Int) (i2 : Int) (s3 : Nat → Int) (behind4 : Bool) (r5 : Nat → Int) (r6 : Nat → Int) (j7 : Int) (k9 : Int) (g10 : Nat → Int) : St := ⟨sl 63 [(1, .int .i64 (i2)), (3, .bool (behind4)), (4, .sptr [(0, 2), (1, 1104)]), (6, .sptr [(2, 64)]), (8, .sptr [(3, 8)]), (9, .sptr [(4, 8)]), (10, .sptr [(5, 2), (6, 520)]), (11, .int .i64 (j7)), (12, .int .i64 (k9))], [⟨true, .ints .i64 2 h0⟩, ⟨true, .ints .u8 1104 h1⟩, ⟨true, .ints .u8 64 s3⟩, ⟨true, .ints .u8 8 (fun _ => 0)⟩, ⟨true, .ints .u8 8 g10⟩, ⟨true, .ints .i64 2 r5⟩, ⟨true, .ints .u8 520 r6⟩]⟩

noncomputable def spec_l03Folded.sx1_0 (h0 : Nat → Int) (h1 : Nat → Int) (i2 : Int) (s3 : Nat → Int) (behind4 : Bool) (r5 : Nat → Int) (r6 : Nat → Int) (j7 : Int) (o17 : Nat → Int) : St := ⟨sl 63 [(1, .int .i64 (i2)), (3, .bool (behind4)), (4, .sptr [(0, 2), (1, 1104)]), (6, .sptr [(2, 64)]), (8, .sptr [(3, 8)]), (9, .sptr [(4, 8)]), (10, .sptr [(5, 2), (6, 520)]), (11, .int .i64 (j7))], [⟨true, .ints .i64 2 h0⟩, ⟨true, .ints .u8 1104 h1⟩, ⟨true, .ints .u8 64 s3⟩, ⟨true, .ints .u8 8 (fun _ => 0)⟩, ⟨true, .ints .u8 8 o17⟩, ⟨true, .ints .i64 2 r5⟩, ⟨true, .ints .u8 520 r6⟩]⟩

theorem spec_l03Folded.b1_gen {ρ : Type} (N : Nat) (K : AV → Heap → Option ρ) (L1 : St → Option ρ) (kv : XE → St → Option ρ) (h0 : Nat → Int) (h1 : Nat → Int) (i2 : Int) (s3 : Nat → Int) (behind4 : Bool) (r5 : Nat → Int) (r6 : Nat → Int) (j7 : Int) (k9 : Int) (g10 : Nat → Int) :
    xcode (E31 N) ents spec_l03Folded.kp 0 N (cL (cK (cB (cK (cA (cB (cL (cK (cB (cA (cB (cB spec_l03Folded.bd)))))))))))) 2 (spec_l03Folded.st1 h0 h1 i2 s3 behind4 r5 r6 j7 k9 g10) (roundK spec_l03Folded.kp 0 2 L1 (mixK (spec_l03Folded.fin N K .ret) kv)) = (spec_l03Folded.b1 N (fun d0 => K (.agg [⟨.u8, 8, d0⟩]) []) (fun k9 g10 => L1 (spec_l03Folded.st1 h0 h1 i2 s3 behind4 r5 r6 j7 k9 g10)) (fun o17 => kv (.exit 2) (spec_l03Folded.sx1_0 h0 h1 i2 s3 behind4 r5 r6 j7 o17)) h0 h1 i2 s3 behind4 r5 r6 j7 k9 g10) := by kernel_rfl

theorem spec_l03Folded.b1_eq {ρ : Type} (N : Nat) (K : AV → Heap → Option ρ) (L0 : St → Option ρ) (L1 : St → Option ρ) (h0 : Nat → Int) (h1 : Nat → Int) (i2 : Int) (s3 : Nat → Int) (behind4 : Bool) (r5 : Nat → Int) (r6 : Nat → Int) (j7 : Int) (k9 : Int) (g10 : Nat → Int) :
    xcode (E31 N) ents spec_l03Folded.kp 0 N (cL (cK (cB (cK (cA (cB (cL (cK (cB (cA (cB (cB spec_l03Folded.bd)))))))))))) 2 (spec_l03Folded.st1 h0 h1 i2 s3 behind4 r5 r6 j7 k9 g10) (roundK spec_l03Folded.kp 0 2 L1 (spec_l03Folded.k1g N L0 (spec_l03Folded.k0 N K))) = (spec_l03Folded.b1 N (fun d0 => K (.agg [⟨.u8, 8, d0⟩]) []) (fun k9 g10 => L1 (spec_l03Folded.st1 h0 h1 i2 s3 behind4 r5 r6 j7 k9 g10)) (fun o17 => (spec_l03Folded.k1g N L0 (spec_l03Folded.k0 N K)) (.exit 2) (spec_l03Folded.sx1_0 h0 h1 i2 s3 behind4 r5 r6 j7 o17)) h0 h1 i2 s3 behind4 r5 r6 j7 k9 g10) := by
  have h := spec_l03Folded.b1_gen N K L1 (spec_l03Folded.k1g N L0 (spec_l03Folded.k0 N K)) h0 h1 i2 s3 behind4 r5 r6 j7 k9 g10
  rw [spec_l03Folded.k1_mix] at h
  exact h

theorem spec_l03Folded.a1_0_gen {ρ : Type} (N : Nat) (K : AV → Heap → Option ρ) (L0 : St → Option ρ) (kv : XE → St → Option ρ) (h0 : Nat → Int) (h1 : Nat → Int) (i2 : Int) (s3 : Nat → Int) (behind4 : Bool) (r5 : Nat → Int) (r6 : Nat → Int) (j7 : Int) (o17 : Nat → Int) :
    (spec_l03Folded.k1g N L0 (mixK (spec_l03Folded.fin N K .ret) kv)) (.exit 2) (spec_l03Folded.sx1_0 h0 h1 i2 s3 behind4 r5 r6 j7 o17) = (spec_l03Folded.a1_0 N (fun d0 => K (.agg [⟨.u8, 8, d0⟩]) []) (fun j7 g8 => L0 (spec_l03Folded.st0 h0 h1 i2 s3 behind4 r5 r6 j7 g8)) (fun o18 => kv (.exit 0) (spec_l03Folded.sx0_0 h0 h1 s3 r5 r6 o18)) j7 o17) := by kernel_rfl

theorem spec_l03Folded.a1_0_eq {ρ : Type} (N : Nat) (K : AV → Heap → Option ρ) (L0 : St → Option ρ) (h0 : Nat → Int) (h1 : Nat → Int) (i2 : Int) (s3 : Nat → Int) (behind4 : Bool) (r5 : Nat → Int) (r6 : Nat → Int) (j7 : Int) (o17 : Nat → Int) :
    (spec_l03Folded.k1g N L0 (spec_l03Folded.k0 N K)) (.exit 2) (spec_l03Folded.sx1_0 h0 h1 i2 s3 behind4 r5 r6 j7 o17) = (spec_l03Folded.a1_0 N (fun d0 => K (.agg [⟨.u8, 8, d0⟩]) []) (fun j7 g8 => L0 (spec_l03Folded.st0 h0 h1 i2 s3 behind4 r5 r6 j7 g8)) (fun o18 => (spec_l03Folded.k0 N K) (.exit 0) (spec_l03Folded.sx0_0 h0 h1 s3 r5 r6 o18)) j7 o17) := by
  have h := spec_l03Folded.a1_0_gen N K L0 (spec_l03Folded.k0 N K) h0 h1 i2 s3 behind4 r5 r6 j7 o17
  rw [spec_l03Folded.k0_mix] at h
  exact h

theorem spec_l03Folded.b0_gen {ρ : Type} (N : Nat) (K : AV → Heap → Option ρ) (L0 : St → Option ρ) (kv : XE → St → Option ρ) (h0 : Nat → Int) (h1 : Nat → Int) (i2 : Int) (s3 : Nat → Int) (behind4 : Bool) (r5 : Nat → Int) (r6 : Nat → Int) (j7 : Int) (g8 : Nat → Int) :
    xcode (E31 N) ents spec_l03Folded.kp 0 N (cL (cK (cB (cA (cB (cB spec_l03Folded.bd)))))) 0 (spec_l03Folded.st0 h0 h1 i2 s3 behind4 r5 r6 j7 g8) (roundK spec_l03Folded.kp 0 0 L0 (mixK (spec_l03Folded.fin N K .ret) kv)) = (spec_l03Folded.b0 N (fun d0 => K (.agg [⟨.u8, 8, d0⟩]) []) (fun k9 g10 => xloop (xcode (E31 N) ents spec_l03Folded.kp 0 N (cL (cK (cB (cK (cA (cB (cL (cK (cB (cA (cB (cB spec_l03Folded.bd)))))))))))) 2) spec_l03Folded.kp 0 2 N (spec_l03Folded.st1 h0 h1 i2 s3 behind4 r5 r6 j7 k9 g10) (spec_l03Folded.k1g N L0 (mixK (spec_l03Folded.fin N K .ret) kv))) (fun j7 g8 => L0 (spec_l03Folded.st0 h0 h1 i2 s3 behind4 r5 r6 j7 g8)) (fun o18 => kv (.exit 0) (spec_l03Folded.sx0_0 h0 h1 s3 r5 r6 o18)) h0 j7 g8) := by kernel_rfl

theorem spec_l03Folded.b0_eq {ρ : Type} (N : Nat) (K : AV → Heap → Option ρ) (L0 : St → Option ρ) (h0 : Nat → Int) (h1 : Nat → Int) (i2 : Int) (s3 : Nat → Int) (behind4 : Bool) (r5 : Nat → Int) (r6 : Nat → Int) (j7 : Int) (g8 : Nat → Int) :
    xcode (E31 N) ents spec_l03Folded.kp 0 N (cL (cK (cB (cA (cB (cB spec_l03Folded.bd)))))) 0 (spec_l03Folded.st0 h0 h1 i2 s3 behind4 r5 r6 j7 g8) (roundK spec_l03Folded.kp 0 0 L0 (spec_l03Folded.k0 N K)) = (spec_l03Folded.b0 N (fun d0 => K (.agg [⟨.u8, 8, d0⟩]) []) (fun k9 g10 => xloop (xcode (E31 N) ents spec_l03Folded.kp 0 N (cL (cK (cB (cK (cA (cB (cL (cK (cB (cA (cB (cB spec_l03Folded.bd)))))))))))) 2) spec_l03Folded.kp 0 2 N (spec_l03Folded.st1 h0 h1 i2 s3 behind4 r5 r6 j7 k9 g10) (spec_l03Folded.k1g N L0 (spec_l03Folded.k0 N K))) (fun j7 g8 => L0 (spec_l03Folded.st0 h0 h1 i2 s3 behind4 r5 r6 j7 g8)) (fun o18 => (spec_l03Folded.k0 N K) (.exit 0) (spec_l03Folded.sx0_0 h0 h1 s3 r5 r6 o18)) h0 j7 g8) := by
  have h := spec_l03Folded.b0_gen N K L0 (spec_l03Folded.k0 N K) h0 h1 i2 s3 behind4 r5 r6 j7 g8
  rw [spec_l03Folded.k0_mix] at h
  exact h

theorem spec_l03Folded.a0_0_eq {ρ : Type} (N : Nat) (K : AV → Heap → Option ρ) (h0 : Nat → Int) (h1 : Nat → Int) (s3 : Nat → Int) (r5 : Nat → Int) (r6 : Nat → Int) (o18 : Nat → Int) :
    (spec_l03Folded.k0 N K) (.exit 0) (spec_l03Folded.sx0_0 h0 h1 s3 r5 r6 o18) = (spec_l03Folded.a0_0 N (fun d0 => K (.agg [⟨.u8, 8, d0⟩]) []) o18) := by kernel_rfl

theorem spec_l03Folded.l1_eq {ρ : Type} (N : Nat) (K : AV → Heap → Option ρ) (L0 : St → Option ρ) (h0 : Nat → Int) (h1 : Nat → Int) (i2 : Int) (s3 : Nat → Int) (behind4 : Bool) (r5 : Nat → Int) (r6 : Nat → Int) (j7 : Int) :
    ∀ (m : Nat) (k9 : Int) (g10 : Nat → Int), xloop (xcode (E31 N) ents spec_l03Folded.kp 0 N (cL (cK (cB (cK (cA (cB (cL (cK (cB (cA (cB (cB spec_l03Folded.bd)))))))))))) 2) spec_l03Folded.kp 0 2 m (spec_l03Folded.st1 h0 h1 i2 s3 behind4 r5 r6 j7 k9 g10) (spec_l03Folded.k1g N L0 (spec_l03Folded.k0 N K)) = (spec_l03Folded.l1 N (fun d0 => K (.agg [⟨.u8, 8, d0⟩]) []) h0 h1 i2 s3 behind4 r5 r6 j7 (fun o17 => (spec_l03Folded.k1g N L0 (spec_l03Folded.k0 N K)) (.exit 2) (spec_l03Folded.sx1_0 h0 h1 i2 s3 behind4 r5 r6 j7 o17)) m k9 g10) := by
  intro m
  induction m with
  | zero => intros; rfl
  | succ m ih =>
    intro k9 g10
    refine (spec_l03Folded.b1_eq N K L0 (fun s => xloop (xcode (E31 N) ents spec_l03Folded.kp 0 N (cL (cK (cB (cK (cA (cB (cL (cK (cB (cA (cB (cB spec_l03Folded.bd)))))))))))) 2) spec_l03Folded.kp 0 2 m s (spec_l03Folded.k1g N L0 (spec_l03Folded.k0 N K))) h0 h1 i2 s3 behind4 r5 r6 j7 k9 g10).trans ?_
    simp only [ih]
    kernel_rfl

theorem spec_l03Folded.l0_eq {ρ : Type} (N : Nat) (K : AV → Heap → Option ρ) (h0 : Nat → Int) (h1 : Nat → Int) (i2 : Int) (s3 : Nat → Int) (behind4 : Bool) (r5 : Nat → Int) (r6 : Nat → Int) :
    ∀ (m : Nat) (j7 : Int) (g8 : Nat → Int), xloop (xcode (E31 N) ents spec_l03Folded.kp 0 N (cL (cK (cB (cA (cB (cB spec_l03Folded.bd)))))) 0) spec_l03Folded.kp 0 0 m (spec_l03Folded.st0 h0 h1 i2 s3 behind4 r5 r6 j7 g8) (spec_l03Folded.k0 N K) = (spec_l03Folded.l0 N (fun d0 => K (.agg [⟨.u8, 8, d0⟩]) []) h0 h1 i2 s3 behind4 r5 r6 (fun o18 => (spec_l03Folded.k0 N K) (.exit 0) (spec_l03Folded.sx0_0 h0 h1 s3 r5 r6 o18)) m j7 g8) := by
  intro m
  induction m with
  | zero => intros; rfl
  | succ m ih =>
    intro j7 g8
    refine (spec_l03Folded.b0_eq N K (fun s => xloop (xcode (E31 N) ents spec_l03Folded.kp 0 N (cL (cK (cB (cA (cB (cB spec_l03Folded.bd)))))) 0) spec_l03Folded.kp 0 0 m s (spec_l03Folded.k0 N K)) h0 h1 i2 s3 behind4 r5 r6 j7 g8).trans ?_
    simp only [ih, spec_l03Folded.l1_eq, spec_l03Folded.a1_0_eq]
    kernel_rfl

theorem spec_l03Folded.s_eq {ρ : Type} (N : Nat) (K : AV → Heap → Option ρ) (h0 : Nat → Int) (h1 : Nat → Int) (i2 : Int) (s3 : Nat → Int) (behind4 : Bool) :
    xbody (E31 N) ents spec_l03Folded.kp N Go.Proofs.Try.f94 spec_l03Folded.bd [.agg [⟨.i64, 2, h0⟩, ⟨.u8, 1104, h1⟩], .int .i64 (i2), .agg [⟨.u8, 64, s3⟩], .bool (behind4)] [] K = (spec_l03Folded.s N (fun d0 => K (.agg [⟨.u8, 8, d0⟩]) []) (fun r5 r6 j7 g8 => xloop (xcode (E31 N) ents spec_l03Folded.kp 0 N (cL (cK (cB (cA (cB (cB spec_l03Folded.bd)))))) 0) spec_l03Folded.kp 0 0 N (spec_l03Folded.st0 h0 h1 i2 s3 behind4 r5 r6 j7 g8) (spec_l03Folded.k0 N K)) h0 h1) := by kernel_rfl

theorem spec_l03Folded.eq {ρ : Type} (N : Nat) (K : AV → Heap → Option ρ) (h0 : Nat → Int) (h1 : Nat → Int) (i2 : Int) (s3 : Nat → Int) (behind4 : Bool) :
    xbody (E31 N) ents spec_l03Folded.kp N Go.Proofs.Try.f94 spec_l03Folded.bd [.agg [⟨.i64, 2, h0⟩, ⟨.u8, 1104, h1⟩], .int .i64 (i2), .agg [⟨.u8, 64, s3⟩], .bool (behind4)] [] K = (spec_l03Folded N (fun d0 => K (.agg [⟨.u8, 8, d0⟩]) []) h0 h1 i2 s3 behind4) := by
  refine (spec_l03Folded.s_eq N K h0 h1 i2 s3 behind4).trans ?_
  simp only [spec_l03Folded.l0_eq, spec_l03Folded.a0_0_eq]
  kernel_rfl

noncomputable def spec_l03Folded.en (N : Nat) (ρ : Type) : List AV → Heap → (AV → Heap → Option ρ) → Option ρ
  | [.agg [⟨.i64, 2, h0⟩, ⟨.u8, 1104, h1⟩], .int .i64 (i2), .agg [⟨.u8, 64, s3⟩], .bool (behind4)], [], K => (spec_l03Folded N (fun d0 => K (.agg [⟨.u8, 8, d0⟩]) []) h0 h1 i2 s3 behind4)
  | _, _, _ => none

theorem spec_l03Folded.en_ok (N : Nat) (hE : EnvOk (E31 N) ents) (ρ : Type) (args : List AV) (sh : Heap) (K : AV → Heap → Option ρ) (r : ρ) (h : spec_l03Folded.en N ρ args sh K = some r) : ∃ v sh', K v sh' = some r ∧ FnOk (E31 N).P 94 args sh v sh' := by
  unfold spec_l03Folded.en at h
  split at h
  · exact fn_ok hE (kp := spec_l03Folded.kp) (N := N) Go.Proofs.Try.func94 (c := spec_l03Folded.bd) (by kernel_rfl) ((spec_l03Folded.eq N _ _ _ _ _ _).trans h)
  · cases h

noncomputable def E32 (N : Nat) : Env := (E31 N).add 94 (spec_l03Folded.en N)

theorem E32_ok (N : Nat) : EnvOk (E32 N) ents := Env.add_ok (E31_ok N) (spec_l03Folded.en_ok N (E31_ok N))

noncomputable def spec_l03Antipode.kp : Keeps := ⟨[(0, [2, 3, 4, 7], 3)], [(0, [], 3)]⟩

noncomputable def spec_l03Antipode.bd : Code := bodyOf Go.Proofs.Try.f73

noncomputable def spec_l03Antipode.fin {ρ : Type} (N : Nat) (K : AV → Heap → Option ρ) : XE → St → Option ρ := finK (E32 N) Go.Proofs.Try.f73 [] K

noncomputable def spec_l03Antipode.k0 {ρ : Type} (N : Nat) (K : AV → Heap → Option ρ) : XE → St → Option ρ := (blockK spec_l03Antipode.kp 0 0 (seqK (xcode (E32 N) ents spec_l03Antipode.kp 0 N (cB (cB spec_l03Antipode.bd)) 0) (spec_l03Antipode.fin N K)))

theorem spec_l03Antipode.k0_mix {ρ : Type} (N : Nat) (K : AV → Heap → Option ρ) : mixK (spec_l03Antipode.fin N K .ret) (spec_l03Antipode.k0 N K) = (spec_l03Antipode.k0 N K) := by
  funext e s; cases e <;> rfl

noncomputable def spec_l03Antipode.st0 (h0 : Nat → Int) (h1 : Nat → Int) (s2 : Nat → Int) (behind3 : Bool) (i4 : Int) : St := ⟨sl 31 [(2, .bool (behind3)), (3, .sptr [(0, 2), (1, 1104)]), (4, .sptr [(2, 64)]), (7, .int .i64 (i4))], [⟨true, .ints .i64 2 h0⟩, ⟨true, .ints .u8 1104 h1⟩, ⟨true, .ints .u8 64 s2⟩]⟩

noncomputable def spec_l03Antipode.sx0_0 (h0 : Nat → Int) (h1 : Nat → Int) (s2 : Nat → Int) : St := ⟨sl 31 [], [⟨true, .ints .i64 2 h0⟩, ⟨true, .ints .u8 1104 h1⟩, ⟨true, .ints .u8 64 s2⟩]⟩

theorem spec_l03Antipode.b0_gen {ρ : Type} (N : Nat) (K : AV → Heap → Option ρ) (L0 : St → Option ρ) (kv : XE → St → Option ρ) (h0 : Nat → Int) (h1 : Nat → Int) (s2 : Nat → Int) (behind3 : Bool) (i4 : Int) :
    xcode (E32 N) ents spec_l03Antipode.kp 0 N (cL (cK (cB (cA (cB spec_l03Antipode.bd))))) 0 (spec_l03Antipode.st0 h0 h1 s2 behind3 i4) (roundK spec_l03Antipode.kp 0 0 L0 (mixK (spec_l03Antipode.fin N K .ret) kv)) = (spec_l03Antipode.b0 N (fun d0 => K (.bool (d0)) []) (fun i4 => L0 (spec_l03Antipode.st0 h0 h1 s2 behind3 i4)) (kv (.exit 0) (spec_l03Antipode.sx0_0 h0 h1 s2)) h0 h1 s2 behind3 i4) := by kernel_rfl

theorem spec_l03Antipode.b0_eq {ρ : Type} (N : Nat) (K : AV → Heap → Option ρ) (L0 : St → Option ρ) (h0 : Nat → Int) (h1 : Nat → Int) (s2 : Nat → Int) (behind3 : Bool) (i4 : Int) :
    xcode (E32 N) ents spec_l03Antipode.kp 0 N (cL (cK (cB (cA (cB spec_l03Antipode.bd))))) 0 (spec_l03Antipode.st0 h0 h1 s2 behind3 i4) (roundK spec_l03Antipode.kp 0 0 L0 (spec_l03Antipode.k0 N K)) = (spec_l03Antipode.b0 N (fun d0 => K (.bool (d0)) []) (fun i4 => L0 (spec_l03Antipode.st0 h0 h1 s2 behind3 i4)) ((spec_l03Antipode.k0 N K) (.exit 0) (spec_l03Antipode.sx0_0 h0 h1 s2)) h0 h1 s2 behind3 i4) := by
  have h := spec_l03Antipode.b0_gen N K L0 (spec_l03Antipode.k0 N K) h0 h1 s2 behind3 i4
  rw [spec_l03Antipode.k0_mix] at h
  exact h

theorem spec_l03Antipode.a0_0_eq {ρ : Type} (N : Nat) (K : AV → Heap → Option ρ) (h0 : Nat → Int) (h1 : Nat → Int) (s2 : Nat → Int) :
    (spec_l03Antipode.k0 N K) (.exit 0) (spec_l03Antipode.sx0_0 h0 h1 s2) = (spec_l03Antipode.a0_0 N (fun d0 => K (.bool (d0)) [])) := by kernel_rfl

theorem spec_l03Antipode.l0_eq {ρ : Type} (N : Nat) (K : AV → Heap → Option ρ) (h0 : Nat → Int) (h1 : Nat → Int) (s2 : Nat → Int) (behind3 : Bool) :
    ∀ (m : Nat) (i4 : Int), xloop (xcode (E32 N) ents spec_l03Antipode.kp 0 N (cL (cK (cB (cA (cB spec_l03Antipode.bd))))) 0) spec_l03Antipode.kp 0 0 m (spec_l03Antipode.st0 h0 h1 s2 behind3 i4) (spec_l03Antipode.k0 N K) = (spec_l03Antipode.l0 N (fun d0 => K (.bool (d0)) []) h0 h1 s2 behind3 ((spec_l03Antipode.k0 N K) (.exit 0) (spec_l03Antipode.sx0_0 h0 h1 s2)) m i4) := by
  intro m
  induction m with
  | zero => intros; rfl
  | succ m ih =>
    intro i4
    refine (spec_l03Antipode.b0_eq N K (fun s => xloop (xcode (E32 N) ents spec_l03Antipode.kp 0 N (cL (cK (cB (cA (cB spec_l03Antipode.bd))))) 0) spec_l03Antipode.kp 0 0 m s (spec_l03Antipode.k0 N K)) h0 h1 s2 behind3 i4).trans ?_
    simp only [ih]
    kernel_rfl

theorem spec_l03Antipode.s_eq {ρ : Type} (N : Nat) (K : AV → Heap → Option ρ) (h0 : Nat → Int) (h1 : Nat → Int) (s2 : Nat → Int) (behind3 : Bool) :
    xbody (E32 N) ents spec_l03Antipode.kp N Go.Proofs.Try.f73 spec_l03Antipode.bd [.agg [⟨.i64, 2, h0⟩, ⟨.u8, 1104, h1⟩], .agg [⟨.u8, 64, s2⟩], .bool (behind3)] [] K = (spec_l03Antipode.s N (fun d0 => K (.bool (d0)) []) (fun i4 => xloop (xcode (E32 N) ents spec_l03Antipode.kp 0 N (cL (cK (cB (cA (cB spec_l03Antipode.bd))))) 0) spec_l03Antipode.kp 0 0 N (spec_l03Antipode.st0 h0 h1 s2 behind3 i4) (spec_l03Antipode.k0 N K))) := by kernel_rfl

theorem spec_l03Antipode.eq {ρ : Type} (N : Nat) (K : AV → Heap → Option ρ) (h0 : Nat → Int) (h1 : Nat → Int) (s2 : Nat → Int) (behind3 : Bool) :
    xbody (E32 N) ents spec_l03Antipode.kp N Go.Proofs.Try.f73 spec_l03Antipode.bd [.agg [⟨.i64, 2, h0⟩, ⟨.u8, 1104, h1⟩], .agg [⟨.u8, 64, s2⟩], .bool (behind3)] [] K = (spec_l03Antipode N (fun d0 => K (.bool (d0)) []) h0 h1 s2 behind3) := by
  refine (spec_l03Antipode.s_eq N K h0 h1 s2 behind3).trans ?_
  simp only [spec_l03Antipode.l0_eq, spec_l03Antipode.a0_0_eq]
  kernel_rfl

noncomputable def spec_l03Antipode.en (N : Nat) (ρ : Type) : List AV → Heap → (AV → Heap → Option ρ) → Option ρ
  | [.agg [⟨.i64, 2, h0⟩, ⟨.u8, 1104, h1⟩], .agg [⟨.u8, 64, s2⟩], .bool (behind3)], [], K => (spec_l03Antipode N (fun d0 => K (.bool (d0)) []) h0 h1 s2 behind3)
  | _, _, _ => none

theorem spec_l03Antipode.en_ok (N : Nat) (hE : EnvOk (E32 N) ents) (ρ : Type) (args : List AV) (sh : Heap) (K : AV → Heap → Option ρ) (r : ρ) (h : spec_l03Antipode.en N ρ args sh K = some r) : ∃ v sh', K v sh' = some r ∧ FnOk (E32 N).P 73 args sh v sh' := by
  unfold spec_l03Antipode.en at h
  split at h
  · exact fn_ok hE (kp := spec_l03Antipode.kp) (N := N) Go.Proofs.Try.func73 (c := spec_l03Antipode.bd) (by kernel_rfl) ((spec_l03Antipode.eq N _ _ _ _ _).trans h)
  · cases h

noncomputable def E33 (N : Nat) : Env := (E32 N).add 73 (spec_l03Antipode.en N)

theorem E33_ok (N : Nat) : EnvOk (E33 N) ents := Env.add_ok (E32_ok N) (spec_l03Antipode.en_ok N (E32_ok N))

noncomputable def spec_l03Fails.kp : Keeps := ⟨[], []⟩

noncomputable def spec_l03Fails.bd : Code := bodyOf Go.Proofs.Try.f35

noncomputable def spec_l03Fails.fin {ρ : Type} (N : Nat) (K : AV → Heap → Option ρ) : XE → St → Option ρ := finK (E33 N) Go.Proofs.Try.f35 [] K

theorem spec_l03Fails.eq {ρ : Type} (N : Nat) (K : AV → Heap → Option ρ) (h0 : Nat → Int) (h1 : Nat → Int) :
    xbody (E33 N) ents spec_l03Fails.kp N Go.Proofs.Try.f35 spec_l03Fails.bd [.agg [⟨.i64, 2, h0⟩, ⟨.u8, 1104, h1⟩]] [] K = (spec_l03Fails N (fun d0 => K (.int .i64 (d0)) []) h0 h1) := by kernel_rfl

noncomputable def spec_l03Fails.en (N : Nat) (ρ : Type) : List AV → Heap → (AV → Heap → Option ρ) → Option ρ
  | [.agg [⟨.i64, 2, h0⟩, ⟨.u8, 1104, h1⟩]], [], K => (spec_l03Fails N (fun d0 => K (.int .i64 (d0)) []) h0 h1)
  | _, _, _ => none

theorem spec_l03Fails.en_ok (N : Nat) (hE : EnvOk (E33 N) ents) (ρ : Type) (args : List AV) (sh : Heap) (K : AV → Heap → Option ρ) (r : ρ) (h : spec_l03Fails.en N ρ args sh K = some r) : ∃ v sh', K v sh' = some r ∧ FnOk (E33 N).P 35 args sh v sh' := by
  unfold spec_l03Fails.en at h
  split at h
  · exact fn_ok hE (kp := spec_l03Fails.kp) (N := N) Go.Proofs.Try.func35 (c := spec_l03Fails.bd) (by kernel_rfl) ((spec_l03Fails.eq N _ _ _).trans h)
  · cases h

noncomputable def E34 (N : Nat) : Env := (E33 N).add 35 (spec_l03Fails.en N)

theorem E34_ok (N : Nat) : EnvOk (E34 N) ents := Env.add_ok (E33_ok N) (spec_l03Fails.en_ok N (E33_ok N))

noncomputable def spec_l03Is.kp : Keeps := ⟨[], []⟩

noncomputable def spec_l03Is.bd : Code := bodyOf Go.Proofs.Try.f29

noncomputable def spec_l03Is.fin {ρ : Type} (N : Nat) (K : AV → Heap → Option ρ) : XE → St → Option ρ := finK (E34 N) Go.Proofs.Try.f29 [] K

theorem spec_l03Is.eq {ρ : Type} (N : Nat) (K : AV → Heap → Option ρ) (h0 : Nat → Int) (h1 : Nat → Int) :
    xbody (E34 N) ents spec_l03Is.kp N Go.Proofs.Try.f29 spec_l03Is.bd [.agg [⟨.i64, 2, h0⟩, ⟨.u8, 1104, h1⟩]] [] K = (spec_l03Is N (fun d0 => K (.bool (d0)) []) h0 h1) := by kernel_rfl

noncomputable def spec_l03Is.en (N : Nat) (ρ : Type) : List AV → Heap → (AV → Heap → Option ρ) → Option ρ
  | [.agg [⟨.i64, 2, h0⟩, ⟨.u8, 1104, h1⟩]], [], K => (spec_l03Is N (fun d0 => K (.bool (d0)) []) h0 h1)
  | _, _, _ => none

theorem spec_l03Is.en_ok (N : Nat) (hE : EnvOk (E34 N) ents) (ρ : Type) (args : List AV) (sh : Heap) (K : AV → Heap → Option ρ) (r : ρ) (h : spec_l03Is.en N ρ args sh K = some r) : ∃ v sh', K v sh' = some r ∧ FnOk (E34 N).P 29 args sh v sh' := by
  unfold spec_l03Is.en at h
  split at h
  · exact fn_ok hE (kp := spec_l03Is.kp) (N := N) Go.Proofs.Try.func29 (c := spec_l03Is.bd) (by kernel_rfl) ((spec_l03Is.eq N _ _ _).trans h)
  · cases h

noncomputable def E35 (N : Nat) : Env := (E34 N).add 29 (spec_l03Is.en N)

theorem E35_ok (N : Nat) : EnvOk (E35 N) ents := Env.add_ok (E34_ok N) (spec_l03Is.en_ok N (E34_ok N))

noncomputable def spec_IsHopf.kp : Keeps := ⟨[], []⟩

noncomputable def spec_IsHopf.bd : Code := bodyOf Go.Proofs.Try.f10

noncomputable def spec_IsHopf.fin {ρ : Type} (N : Nat) (K : AV → Heap → Option ρ) : XE → St → Option ρ := finK (E35 N) Go.Proofs.Try.f10 [] K

theorem spec_IsHopf.eq {ρ : Type} (N : Nat) (K : AV → Heap → Option ρ) (h0 : Nat → Int) (h1 : Nat → Int) :
    xbody (E35 N) ents spec_IsHopf.kp N Go.Proofs.Try.f10 spec_IsHopf.bd [.agg [⟨.i64, 2, h0⟩, ⟨.u8, 1104, h1⟩]] [] K = (spec_IsHopf N (fun d0 => K (.bool (d0)) []) h0 h1) := by kernel_rfl

noncomputable def spec_IsHopf.en (N : Nat) (ρ : Type) : List AV → Heap → (AV → Heap → Option ρ) → Option ρ
  | [.agg [⟨.i64, 2, h0⟩, ⟨.u8, 1104, h1⟩]], [], K => (spec_IsHopf N (fun d0 => K (.bool (d0)) []) h0 h1)
  | _, _, _ => none

theorem spec_IsHopf.en_ok (N : Nat) (hE : EnvOk (E35 N) ents) (ρ : Type) (args : List AV) (sh : Heap) (K : AV → Heap → Option ρ) (r : ρ) (h : spec_IsHopf.en N ρ args sh K = some r) : ∃ v sh', K v sh' = some r ∧ FnOk (E35 N).P 10 args sh v sh' := by
  unfold spec_IsHopf.en at h
  split at h
  · exact fn_ok hE (kp := spec_IsHopf.kp) (N := N) Go.Proofs.Try.func10 (c := spec_IsHopf.bd) (by kernel_rfl) ((spec_IsHopf.eq N _ _ _).trans h)
  · cases h

noncomputable def E36 (N : Nat) : Env := (E35 N).add 10 (spec_IsHopf.en N)

theorem E36_ok (N : Nat) : EnvOk (E36 N) ents := Env.add_ok (E35_ok N) (spec_IsHopf.en_ok N (E35_ok N))

noncomputable def impl_Hopf_algebra.kp : Keeps := ⟨[], []⟩

noncomputable def impl_Hopf_algebra.bd : Code := bodyOf Go.Proofs.Try.f53

noncomputable def impl_Hopf_algebra.fin {ρ : Type} (N : Nat) (K : AV → Heap → Option ρ) (g0 : Nat → Int) (g1 : Nat → Int) : XE → St → Option ρ := finK (E36 N) Go.Proofs.Try.f53 [⟨false, .ints .i64 2 g0⟩, ⟨false, .ints .u8 1104 g1⟩] K

theorem impl_Hopf_algebra.eq {ρ : Type} (N : Nat) (K : AV → Heap → Option ρ) (g0 : Nat → Int) (g1 : Nat → Int) :
    xbody (E36 N) ents impl_Hopf_algebra.kp N Go.Proofs.Try.f53 impl_Hopf_algebra.bd [.sptr [(0, 2), (1, 1104)]] [⟨false, .ints .i64 2 g0⟩, ⟨false, .ints .u8 1104 g1⟩] K = (impl_Hopf_algebra N (fun d0 d1 => K (.sptr [(2, 2), (3, 520)]) [⟨false, .ints .i64 2 g0⟩, ⟨false, .ints .u8 1104 g1⟩, ⟨true, .ints .i64 2 d0⟩, ⟨true, .ints .u8 520 d1⟩]) g0 g1) := by kernel_rfl

noncomputable def impl_Hopf_algebra.en (N : Nat) (ρ : Type) : List AV → Heap → (AV → Heap → Option ρ) → Option ρ
  | [.sptr [(0, 2), (1, 1104)]], [⟨false, .ints .i64 2 g0⟩, ⟨false, .ints .u8 1104 g1⟩], K => (impl_Hopf_algebra N (fun d0 d1 => K (.sptr [(2, 2), (3, 520)]) [⟨false, .ints .i64 2 g0⟩, ⟨false, .ints .u8 1104 g1⟩, ⟨true, .ints .i64 2 d0⟩, ⟨true, .ints .u8 520 d1⟩]) g0 g1)
  | _, _, _ => none

theorem impl_Hopf_algebra.en_ok (N : Nat) (hE : EnvOk (E36 N) ents) (ρ : Type) (args : List AV) (sh : Heap) (K : AV → Heap → Option ρ) (r : ρ) (h : impl_Hopf_algebra.en N ρ args sh K = some r) : ∃ v sh', K v sh' = some r ∧ FnOk (E36 N).P 53 args sh v sh' := by
  unfold impl_Hopf_algebra.en at h
  split at h
  · exact fn_ok hE (kp := impl_Hopf_algebra.kp) (N := N) Go.Proofs.Try.func53 (c := impl_Hopf_algebra.bd) (by kernel_rfl) ((impl_Hopf_algebra.eq N _ _ _).trans h)
  · cases h

noncomputable def E37 (N : Nat) : Env := (E36 N).add 53 (impl_Hopf_algebra.en N)

theorem E37_ok (N : Nat) : EnvOk (E37 N) ents := Env.add_ok (E36_ok N) (impl_Hopf_algebra.en_ok N (E36_ok N))

noncomputable def impl_IsPrime.kp : Keeps := ⟨[(0, [0, 3], 0)], [(0, [], 0)]⟩

noncomputable def impl_IsPrime.bd : Code := bodyOf Go.Proofs.Try.f98

noncomputable def impl_IsPrime.fin {ρ : Type} (N : Nat) (K : AV → Heap → Option ρ) : XE → St → Option ρ := finK (E37 N) Go.Proofs.Try.f98 [] K

noncomputable def impl_IsPrime.k0 {ρ : Type} (N : Nat) (K : AV → Heap → Option ρ) : XE → St → Option ρ := (blockK impl_IsPrime.kp 0 0 (seqK (xcode (E37 N) ents impl_IsPrime.kp 0 N (cB (cB (cB impl_IsPrime.bd))) 0) (impl_IsPrime.fin N K)))

theorem impl_IsPrime.k0_mix {ρ : Type} (N : Nat) (K : AV → Heap → Option ρ) : mixK (impl_IsPrime.fin N K .ret) (impl_IsPrime.k0 N K) = (impl_IsPrime.k0 N K) := by
  funext e s; cases e <;> rfl

noncomputable def impl_IsPrime.st0 (p0 : Int) (k1 : Int) : St := ⟨sl 21 [(0, .int .i64 (p0)), (3, .int .i64 (k1))], []⟩

noncomputable def impl_IsPrime.sx0_0 : St := ⟨sl 21 [], []⟩

theorem impl_IsPrime.b0_gen {ρ : Type} (N : Nat) (K : AV → Heap → Option ρ) (L0 : St → Option ρ) (kv : XE → St → Option ρ) (p0 : Int) (k1 : Int) :
    xcode (E37 N) ents impl_IsPrime.kp 0 N (cL (cK (cB (cA (cB (cB impl_IsPrime.bd)))))) 0 (impl_IsPrime.st0 p0 k1) (roundK impl_IsPrime.kp 0 0 L0 (mixK (impl_IsPrime.fin N K .ret) kv)) = (impl_IsPrime.b0 N (fun d0 => K (.bool (d0)) []) (fun k1 => L0 (impl_IsPrime.st0 p0 k1)) (kv (.exit 0) (impl_IsPrime.sx0_0)) p0 k1) := by kernel_rfl

theorem impl_IsPrime.b0_eq {ρ : Type} (N : Nat) (K : AV → Heap → Option ρ) (L0 : St → Option ρ) (p0 : Int) (k1 : Int) :
    xcode (E37 N) ents impl_IsPrime.kp 0 N (cL (cK (cB (cA (cB (cB impl_IsPrime.bd)))))) 0 (impl_IsPrime.st0 p0 k1) (roundK impl_IsPrime.kp 0 0 L0 (impl_IsPrime.k0 N K)) = (impl_IsPrime.b0 N (fun d0 => K (.bool (d0)) []) (fun k1 => L0 (impl_IsPrime.st0 p0 k1)) ((impl_IsPrime.k0 N K) (.exit 0) (impl_IsPrime.sx0_0)) p0 k1) := by
  have h := impl_IsPrime.b0_gen N K L0 (impl_IsPrime.k0 N K) p0 k1
  rw [impl_IsPrime.k0_mix] at h
  exact h

theorem impl_IsPrime.a0_0_eq {ρ : Type} (N : Nat) (K : AV → Heap → Option ρ) :
    (impl_IsPrime.k0 N K) (.exit 0) (impl_IsPrime.sx0_0) = (impl_IsPrime.a0_0 N (fun d0 => K (.bool (d0)) [])) := by kernel_rfl

theorem impl_IsPrime.l0_eq {ρ : Type} (N : Nat) (K : AV → Heap → Option ρ) (p0 : Int) :
    ∀ (m : Nat) (k1 : Int), xloop (xcode (E37 N) ents impl_IsPrime.kp 0 N (cL (cK (cB (cA (cB (cB impl_IsPrime.bd)))))) 0) impl_IsPrime.kp 0 0 m (impl_IsPrime.st0 p0 k1) (impl_IsPrime.k0 N K) = (impl_IsPrime.l0 N (fun d0 => K (.bool (d0)) []) p0 ((impl_IsPrime.k0 N K) (.exit 0) (impl_IsPrime.sx0_0)) m k1) := by
  intro m
  induction m with
  | zero => intros; rfl
  | succ m ih =>
    intro k1
    refine (impl_IsPrime.b0_eq N K (fun s => xloop (xcode (E37 N) ents impl_IsPrime.kp 0 N (cL (cK (cB (cA (cB (cB impl_IsPrime.bd)))))) 0) impl_IsPrime.kp 0 0 m s (impl_IsPrime.k0 N K)) p0 k1).trans ?_
    simp only [ih]
    kernel_rfl

theorem impl_IsPrime.s_eq {ρ : Type} (N : Nat) (K : AV → Heap → Option ρ) (p0 : Int) :
    xbody (E37 N) ents impl_IsPrime.kp N Go.Proofs.Try.f98 impl_IsPrime.bd [.int .i64 (p0)] [] K = (impl_IsPrime.s N (fun d0 => K (.bool (d0)) []) (fun k1 => xloop (xcode (E37 N) ents impl_IsPrime.kp 0 N (cL (cK (cB (cA (cB (cB impl_IsPrime.bd)))))) 0) impl_IsPrime.kp 0 0 N (impl_IsPrime.st0 p0 k1) (impl_IsPrime.k0 N K)) p0) := by kernel_rfl

theorem impl_IsPrime.eq {ρ : Type} (N : Nat) (K : AV → Heap → Option ρ) (p0 : Int) :
    xbody (E37 N) ents impl_IsPrime.kp N Go.Proofs.Try.f98 impl_IsPrime.bd [.int .i64 (p0)] [] K = (impl_IsPrime N (fun d0 => K (.bool (d0)) []) p0) := by
  refine (impl_IsPrime.s_eq N K p0).trans ?_
  simp only [impl_IsPrime.l0_eq, impl_IsPrime.a0_0_eq]
  kernel_rfl

noncomputable def impl_IsPrime.en (N : Nat) (ρ : Type) : List AV → Heap → (AV → Heap → Option ρ) → Option ρ
  | [.int .i64 (p0)], [], K => (impl_IsPrime N (fun d0 => K (.bool (d0)) []) p0)
  | _, _, _ => none

theorem impl_IsPrime.en_ok (N : Nat) (hE : EnvOk (E37 N) ents) (ρ : Type) (args : List AV) (sh : Heap) (K : AV → Heap → Option ρ) (r : ρ) (h : impl_IsPrime.en N ρ args sh K = some r) : ∃ v sh', K v sh' = some r ∧ FnOk (E37 N).P 98 args sh v sh' := by
  unfold impl_IsPrime.en at h
  split at h
  · exact fn_ok hE (kp := impl_IsPrime.kp) (N := N) Go.Proofs.Try.func98 (c := impl_IsPrime.bd) (by kernel_rfl) ((impl_IsPrime.eq N _ _).trans h)
  · cases h

noncomputable def E38 (N : Nat) : Env := (E37 N).add 98 (impl_IsPrime.en N)

theorem E38_ok (N : Nat) : EnvOk (E38 N) ents := Env.add_ok (E37_ok N) (impl_IsPrime.en_ok N (E37_ok N))
end Go.Proofs.Ytacdnmdfoimjcaa.H
