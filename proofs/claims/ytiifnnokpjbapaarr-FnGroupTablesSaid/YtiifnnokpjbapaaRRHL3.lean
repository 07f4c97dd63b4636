import Derived.Test.YtiifnnokpjbapaaRRHL2
namespace Go.Proofs.YtiifnnokpjbapaaRR.H
noncomputable section
set_option linter.unusedVariables false
set_option linter.unusedSimpArgs false
open Go Go.RowKit Go.Proofs.YtiifnnokpjbapaaRR.Hy
set_option maxRecDepth 100000
def impl_tableOf_f_v3.kp : Keeps := ⟨[(0, [0, 1, 5, 10, 11], [], []), (2, [0, 1, 5, 6, 7, 10, 11, 15, 16], [], [])], [(0, [5], [], []), (2, [0, 1, 5, 7, 10, 11], [], [])], []⟩
def impl_tableOf_f_v3.bd : Code := bodyOf Try.f59
def impl_tableOf_f_v3.fin {ρ : Type} (N : Nat) (K : AV → Heap → Option ρ) : XE → St → Option ρ := finK (E29 N) impl_tableOf_f_v3.kp.fins Try.f59 [] K
def impl_tableOf_f_v3.k0 {ρ : Type} (N : Nat) (K : AV → Heap → Option ρ) : XE → St → Option ρ := (blockK impl_tableOf_f_v3.kp 0 0 (seqK (xcode (E29 N) ents impl_tableOf_f_v3.kp 0 N (cB (cB (cB impl_tableOf_f_v3.bd))) 0) (impl_tableOf_f_v3.fin N K)))
theorem impl_tableOf_f_v3.k0_mix {ρ : Type} (N : Nat) (K : AV → Heap → Option ρ) : mixK (impl_tableOf_f_v3.fin N K .ret) (impl_tableOf_f_v3.k0 N K) = (impl_tableOf_f_v3.k0 N K) := by
  funext e s; cases e <;> kernel_rfl
def impl_tableOf_f_v3.st0 (nv0 : Int) (outv1 : Nat) (x2 : Int) (gv3 : Nat) (gv4 : Nat → Nat) (gv5 : Nat → Nat) (gv6 : Nat → Int) : St := ⟨sl 33 [(0, .int .i64 (nv0)), (1, .fn 60 0 []), (5, .slice true 0 0 outv1 .whole 1), (10, .int .i64 (nv0)), (11, .int .i64 (x2))], [⟨true, .hdr 1 0 gv3 gv4 gv5 none⟩, ⟨true, .flat 0 (.ints .i64 gv6)⟩]⟩
def impl_tableOf_f_v3.sx0_0 (ov13 : Nat) (ov14 : Nat) (ov15 : Nat → Nat) (ov16 : Nat → Nat) (ov17 : Nat → Int) : St := ⟨sl 33 [(5, .slice true 0 0 ov13 .whole 1)], [⟨true, .hdr 1 0 ov14 ov15 ov16 none⟩, ⟨true, .flat 0 (.ints .i64 ov17)⟩]⟩
def impl_tableOf_f_v3.k1g {ρ : Type} (N : Nat) (L0 : St → Option ρ) (kv : XE → St → Option ρ) : XE → St → Option ρ := (blockK impl_tableOf_f_v3.kp 0 2 (seqK (xcode (E29 N) ents impl_tableOf_f_v3.kp 0 N (cB (cB (cB (cK (cA (cB (cB (cL (cK (cB (cA (cB (cB impl_tableOf_f_v3.bd))))))))))))) 1) (blockK impl_tableOf_f_v3.kp 0 1 (seqK (xcode (E29 N) ents impl_tableOf_f_v3.kp 0 N (cB (cB (cB (cL (cK (cB (cA (cB (cB impl_tableOf_f_v3.bd))))))))) 0) (roundK impl_tableOf_f_v3.kp 0 0 L0 kv)))))
theorem impl_tableOf_f_v3.k1_mix {ρ : Type} (N : Nat) (K : AV → Heap → Option ρ) (L0 : St → Option ρ) : mixK (impl_tableOf_f_v3.fin N K .ret) (impl_tableOf_f_v3.k1g N L0 (impl_tableOf_f_v3.k0 N K)) = (impl_tableOf_f_v3.k1g N L0 (impl_tableOf_f_v3.k0 N K)) := by
  funext e s; cases e <;> kernel_rfl
def impl_tableOf_f_v3.st1 (nv0 : Int) (outv1 : Nat) (x2 : Int) (gv3 : Nat) (gv4 : Nat → Nat) (gv5 : Nat → Nat) (gv6 : Nat → Int) (row7 : Nat) (x8 : Int) (gv9 : Nat → Int) : St := ⟨sl 33 [(0, .int .i64 (nv0)), (1, .fn 60 0 []), (5, .slice true 0 0 outv1 .whole 1), (6, .int .i64 (x2)), (7, .slice true 1 0 row7 .whole 1), (10, .int .i64 (nv0)), (11, .int .i64 (x2)), (15, .int .i64 (nv0)), (16, .int .i64 (x8))], [⟨true, .hdr 2 0 gv3 gv4 gv5 none⟩, ⟨true, .flat 0 (.ints .i64 gv9)⟩, ⟨true, .flat 0 (.ints .i64 gv6)⟩]⟩
def impl_tableOf_f_v3.sx1_0 (nv0 : Int) (outv1 : Nat) (x2 : Int) (gv3 : Nat) (gv4 : Nat → Nat) (gv5 : Nat → Nat) (gv6 : Nat → Int) (ov11 : Nat) (ov12 : Nat → Int) : St := ⟨sl 33 [(0, .int .i64 (nv0)), (1, .fn 60 0 []), (5, .slice true 0 0 outv1 .whole 1), (7, .slice true 1 0 ov11 .whole 1), (10, .int .i64 (nv0)), (11, .int .i64 (x2))], [⟨true, .hdr 2 0 gv3 gv4 gv5 none⟩, ⟨true, .flat 0 (.ints .i64 ov12)⟩, ⟨true, .flat 0 (.ints .i64 gv6)⟩]⟩
theorem impl_tableOf_f_v3.b1_gen {ρ : Type} (N : Nat) (K : AV → Heap → Option ρ) (L1 : St → Option ρ) (kv : XE → St → Option ρ) (nv0 : Int) (outv1 : Nat) (x2 : Int) (gv3 : Nat) (gv4 : Nat → Nat) (gv5 : Nat → Nat) (gv6 : Nat → Int) (row7 : Nat) (x8 : Int) (gv9 : Nat → Int) :
    xcode (E29 N) ents impl_tableOf_f_v3.kp 0 N (cL (cK (cB (cA (cB (cB (cK (cA (cB (cB (cL (cK (cB (cA (cB (cB impl_tableOf_f_v3.bd)))))))))))))))) 2 (impl_tableOf_f_v3.st1 nv0 outv1 x2 gv3 gv4 gv5 gv6 row7 x8 gv9) (roundK impl_tableOf_f_v3.kp 0 2 L1 (mixK (impl_tableOf_f_v3.fin N K .ret) kv)) = (impl_tableOf_f_v3.b1 N (fun d0 d1 d2 d3 d4 => K (.slice true 0 0 d0 .whole 1) [⟨true, .hdr 1 0 d1 d2 d3 none⟩, ⟨true, .flat 0 (.ints .i64 d4)⟩]) (fun row7 x8 gv9 => L1 (impl_tableOf_f_v3.st1 nv0 outv1 x2 gv3 gv4 gv5 gv6 row7 x8 gv9)) (fun ov11 ov12 => kv (.exit 2) (impl_tableOf_f_v3.sx1_0 nv0 outv1 x2 gv3 gv4 gv5 gv6 ov11 ov12)) nv0 x2 row7 x8 gv9) := by kernel_rfl
theorem impl_tableOf_f_v3.b1_eq {ρ : Type} (N : Nat) (K : AV → Heap → Option ρ) (L0 : St → Option ρ) (L1 : St → Option ρ) (nv0 : Int) (outv1 : Nat) (x2 : Int) (gv3 : Nat) (gv4 : Nat → Nat) (gv5 : Nat → Nat) (gv6 : Nat → Int) (row7 : Nat) (x8 : Int) (gv9 : Nat → Int) :
    xcode (E29 N) ents impl_tableOf_f_v3.kp 0 N (cL (cK (cB (cA (cB (cB (cK (cA (cB (cB (cL (cK (cB (cA (cB (cB impl_tableOf_f_v3.bd)))))))))))))))) 2 (impl_tableOf_f_v3.st1 nv0 outv1 x2 gv3 gv4 gv5 gv6 row7 x8 gv9) (roundK impl_tableOf_f_v3.kp 0 2 L1 (impl_tableOf_f_v3.k1g N L0 (impl_tableOf_f_v3.k0 N K))) = (impl_tableOf_f_v3.b1 N (fun d0 d1 d2 d3 d4 => K (.slice true 0 0 d0 .whole 1) [⟨true, .hdr 1 0 d1 d2 d3 none⟩, ⟨true, .flat 0 (.ints .i64 d4)⟩]) (fun row7 x8 gv9 => L1 (impl_tableOf_f_v3.st1 nv0 outv1 x2 gv3 gv4 gv5 gv6 row7 x8 gv9)) (fun ov11 ov12 => (impl_tableOf_f_v3.k1g N L0 (impl_tableOf_f_v3.k0 N K)) (.exit 2) (impl_tableOf_f_v3.sx1_0 nv0 outv1 x2 gv3 gv4 gv5 gv6 ov11 ov12)) nv0 x2 row7 x8 gv9) := by
  have h := impl_tableOf_f_v3.b1_gen N K L1 (impl_tableOf_f_v3.k1g N L0 (impl_tableOf_f_v3.k0 N K)) nv0 outv1 x2 gv3 gv4 gv5 gv6 row7 x8 gv9
  rw [impl_tableOf_f_v3.k1_mix] at h
  exact h
theorem impl_tableOf_f_v3.a1_0_gen {ρ : Type} (N : Nat) (K : AV → Heap → Option ρ) (L0 : St → Option ρ) (kv : XE → St → Option ρ) (nv0 : Int) (outv1 : Nat) (x2 : Int) (gv3 : Nat) (gv4 : Nat → Nat) (gv5 : Nat → Nat) (gv6 : Nat → Int) (ov11 : Nat) (ov12 : Nat → Int) :
    (impl_tableOf_f_v3.k1g N L0 (mixK (impl_tableOf_f_v3.fin N K .ret) kv)) (.exit 2) (impl_tableOf_f_v3.sx1_0 nv0 outv1 x2 gv3 gv4 gv5 gv6 ov11 ov12) = (impl_tableOf_f_v3.a1_0 N (fun d0 d1 d2 d3 d4 => K (.slice true 0 0 d0 .whole 1) [⟨true, .hdr 1 0 d1 d2 d3 none⟩, ⟨true, .flat 0 (.ints .i64 d4)⟩]) (fun outv1 x2 gv3 gv4 gv5 gv6 => L0 (impl_tableOf_f_v3.st0 nv0 outv1 x2 gv3 gv4 gv5 gv6)) (fun ov13 ov14 ov15 ov16 ov17 => kv (.exit 0) (impl_tableOf_f_v3.sx0_0 ov13 ov14 ov15 ov16 ov17)) outv1 x2 gv3 gv4 gv5 gv6 ov11 ov12) := by kernel_rfl
theorem impl_tableOf_f_v3.a1_0_eq {ρ : Type} (N : Nat) (K : AV → Heap → Option ρ) (L0 : St → Option ρ) (nv0 : Int) (outv1 : Nat) (x2 : Int) (gv3 : Nat) (gv4 : Nat → Nat) (gv5 : Nat → Nat) (gv6 : Nat → Int) (ov11 : Nat) (ov12 : Nat → Int) :
    (impl_tableOf_f_v3.k1g N L0 (impl_tableOf_f_v3.k0 N K)) (.exit 2) (impl_tableOf_f_v3.sx1_0 nv0 outv1 x2 gv3 gv4 gv5 gv6 ov11 ov12) = (impl_tableOf_f_v3.a1_0 N (fun d0 d1 d2 d3 d4 => K (.slice true 0 0 d0 .whole 1) [⟨true, .hdr 1 0 d1 d2 d3 none⟩, ⟨true, .flat 0 (.ints .i64 d4)⟩]) (fun outv1 x2 gv3 gv4 gv5 gv6 => L0 (impl_tableOf_f_v3.st0 nv0 outv1 x2 gv3 gv4 gv5 gv6)) (fun ov13 ov14 ov15 ov16 ov17 => (impl_tableOf_f_v3.k0 N K) (.exit 0) (impl_tableOf_f_v3.sx0_0 ov13 ov14 ov15 ov16 ov17)) outv1 x2 gv3 gv4 gv5 gv6 ov11 ov12) := by
  have h := impl_tableOf_f_v3.a1_0_gen N K L0 (impl_tableOf_f_v3.k0 N K) nv0 outv1 x2 gv3 gv4 gv5 gv6 ov11 ov12
  rw [impl_tableOf_f_v3.k0_mix] at h
  exact h
theorem impl_tableOf_f_v3.b0_gen {ρ : Type} (N : Nat) (K : AV → Heap → Option ρ) (L0 : St → Option ρ) (kv : XE → St → Option ρ) (nv0 : Int) (outv1 : Nat) (x2 : Int) (gv3 : Nat) (gv4 : Nat → Nat) (gv5 : Nat → Nat) (gv6 : Nat → Int) :
    xcode (E29 N) ents impl_tableOf_f_v3.kp 0 N (cL (cK (cB (cA (cB (cB impl_tableOf_f_v3.bd)))))) 0 (impl_tableOf_f_v3.st0 nv0 outv1 x2 gv3 gv4 gv5 gv6) (roundK impl_tableOf_f_v3.kp 0 0 L0 (mixK (impl_tableOf_f_v3.fin N K .ret) kv)) = (impl_tableOf_f_v3.b0 N (fun d0 d1 d2 d3 d4 => K (.slice true 0 0 d0 .whole 1) [⟨true, .hdr 1 0 d1 d2 d3 none⟩, ⟨true, .flat 0 (.ints .i64 d4)⟩]) (fun row7 x8 gv9 => xloop (xcode (E29 N) ents impl_tableOf_f_v3.kp 0 N (cL (cK (cB (cA (cB (cB (cK (cA (cB (cB (cL (cK (cB (cA (cB (cB impl_tableOf_f_v3.bd)))))))))))))))) 2) impl_tableOf_f_v3.kp 0 2 N (impl_tableOf_f_v3.st1 nv0 outv1 x2 gv3 gv4 gv5 gv6 row7 x8 gv9) (impl_tableOf_f_v3.k1g N L0 (mixK (impl_tableOf_f_v3.fin N K .ret) kv))) (fun outv1 x2 gv3 gv4 gv5 gv6 => L0 (impl_tableOf_f_v3.st0 nv0 outv1 x2 gv3 gv4 gv5 gv6)) (fun ov13 ov14 ov15 ov16 ov17 => kv (.exit 0) (impl_tableOf_f_v3.sx0_0 ov13 ov14 ov15 ov16 ov17)) nv0 outv1 x2 gv3 gv4 gv5 gv6) := by kernel_rfl
theorem impl_tableOf_f_v3.b0_eq {ρ : Type} (N : Nat) (K : AV → Heap → Option ρ) (L0 : St → Option ρ) (nv0 : Int) (outv1 : Nat) (x2 : Int) (gv3 : Nat) (gv4 : Nat → Nat) (gv5 : Nat → Nat) (gv6 : Nat → Int) :
    xcode (E29 N) ents impl_tableOf_f_v3.kp 0 N (cL (cK (cB (cA (cB (cB impl_tableOf_f_v3.bd)))))) 0 (impl_tableOf_f_v3.st0 nv0 outv1 x2 gv3 gv4 gv5 gv6) (roundK impl_tableOf_f_v3.kp 0 0 L0 (impl_tableOf_f_v3.k0 N K)) = (impl_tableOf_f_v3.b0 N (fun d0 d1 d2 d3 d4 => K (.slice true 0 0 d0 .whole 1) [⟨true, .hdr 1 0 d1 d2 d3 none⟩, ⟨true, .flat 0 (.ints .i64 d4)⟩]) (fun row7 x8 gv9 => xloop (xcode (E29 N) ents impl_tableOf_f_v3.kp 0 N (cL (cK (cB (cA (cB (cB (cK (cA (cB (cB (cL (cK (cB (cA (cB (cB impl_tableOf_f_v3.bd)))))))))))))))) 2) impl_tableOf_f_v3.kp 0 2 N (impl_tableOf_f_v3.st1 nv0 outv1 x2 gv3 gv4 gv5 gv6 row7 x8 gv9) (impl_tableOf_f_v3.k1g N L0 (impl_tableOf_f_v3.k0 N K))) (fun outv1 x2 gv3 gv4 gv5 gv6 => L0 (impl_tableOf_f_v3.st0 nv0 outv1 x2 gv3 gv4 gv5 gv6)) (fun ov13 ov14 ov15 ov16 ov17 => (impl_tableOf_f_v3.k0 N K) (.exit 0) (impl_tableOf_f_v3.sx0_0 ov13 ov14 ov15 ov16 ov17)) nv0 outv1 x2 gv3 gv4 gv5 gv6) := by
  have h := impl_tableOf_f_v3.b0_gen N K L0 (impl_tableOf_f_v3.k0 N K) nv0 outv1 x2 gv3 gv4 gv5 gv6
  rw [impl_tableOf_f_v3.k0_mix] at h
  exact h
theorem impl_tableOf_f_v3.a0_0_eq {ρ : Type} (N : Nat) (K : AV → Heap → Option ρ) (ov13 : Nat) (ov14 : Nat) (ov15 : Nat → Nat) (ov16 : Nat → Nat) (ov17 : Nat → Int) :
    (impl_tableOf_f_v3.k0 N K) (.exit 0) (impl_tableOf_f_v3.sx0_0 ov13 ov14 ov15 ov16 ov17) = (impl_tableOf_f_v3.a0_0 N (fun d0 d1 d2 d3 d4 => K (.slice true 0 0 d0 .whole 1) [⟨true, .hdr 1 0 d1 d2 d3 none⟩, ⟨true, .flat 0 (.ints .i64 d4)⟩]) ov13 ov14 ov15 ov16 ov17) := by kernel_rfl
theorem impl_tableOf_f_v3.l1_eq {ρ : Type} (N : Nat) (K : AV → Heap → Option ρ) (L0 : St → Option ρ) (nv0 : Int) (outv1 : Nat) (x2 : Int) (gv3 : Nat) (gv4 : Nat → Nat) (gv5 : Nat → Nat) (gv6 : Nat → Int) :
    ∀ (m : Nat) (row7 : Nat) (x8 : Int) (gv9 : Nat → Int), xloop (xcode (E29 N) ents impl_tableOf_f_v3.kp 0 N (cL (cK (cB (cA (cB (cB (cK (cA (cB (cB (cL (cK (cB (cA (cB (cB impl_tableOf_f_v3.bd)))))))))))))))) 2) impl_tableOf_f_v3.kp 0 2 m (impl_tableOf_f_v3.st1 nv0 outv1 x2 gv3 gv4 gv5 gv6 row7 x8 gv9) (impl_tableOf_f_v3.k1g N L0 (impl_tableOf_f_v3.k0 N K)) = (impl_tableOf_f_v3.l1 N (fun d0 d1 d2 d3 d4 => K (.slice true 0 0 d0 .whole 1) [⟨true, .hdr 1 0 d1 d2 d3 none⟩, ⟨true, .flat 0 (.ints .i64 d4)⟩]) nv0 x2 (fun ov11 ov12 => (impl_tableOf_f_v3.k1g N L0 (impl_tableOf_f_v3.k0 N K)) (.exit 2) (impl_tableOf_f_v3.sx1_0 nv0 outv1 x2 gv3 gv4 gv5 gv6 ov11 ov12)) m row7 x8 gv9) := by
  intro m
  induction m with
  | zero => intros; rfl
  | succ m ih =>
    intro row7 x8 gv9
    refine (impl_tableOf_f_v3.b1_eq N K L0 (fun s => xloop (xcode (E29 N) ents impl_tableOf_f_v3.kp 0 N (cL (cK (cB (cA (cB (cB (cK (cA (cB (cB (cL (cK (cB (cA (cB (cB impl_tableOf_f_v3.bd)))))))))))))))) 2) impl_tableOf_f_v3.kp 0 2 m s (impl_tableOf_f_v3.k1g N L0 (impl_tableOf_f_v3.k0 N K))) nv0 outv1 x2 gv3 gv4 gv5 gv6 row7 x8 gv9).trans ?_
    simp only [ih]
    kernel_rfl
theorem impl_tableOf_f_v3.l0_eq {ρ : Type} (N : Nat) (K : AV → Heap → Option ρ) (nv0 : Int) :
    ∀ (m : Nat) (outv1 : Nat) (x2 : Int) (gv3 : Nat) (gv4 : Nat → Nat) (gv5 : Nat → Nat) (gv6 : Nat → Int), xloop (xcode (E29 N) ents impl_tableOf_f_v3.kp 0 N (cL (cK (cB (cA (cB (cB impl_tableOf_f_v3.bd)))))) 0) impl_tableOf_f_v3.kp 0 0 m (impl_tableOf_f_v3.st0 nv0 outv1 x2 gv3 gv4 gv5 gv6) (impl_tableOf_f_v3.k0 N K) = (impl_tableOf_f_v3.l0 N (fun d0 d1 d2 d3 d4 => K (.slice true 0 0 d0 .whole 1) [⟨true, .hdr 1 0 d1 d2 d3 none⟩, ⟨true, .flat 0 (.ints .i64 d4)⟩]) nv0 (fun ov13 ov14 ov15 ov16 ov17 => (impl_tableOf_f_v3.k0 N K) (.exit 0) (impl_tableOf_f_v3.sx0_0 ov13 ov14 ov15 ov16 ov17)) m outv1 x2 gv3 gv4 gv5 gv6) := by
  intro m
  induction m with
  | zero => intros; rfl
  | succ m ih =>
    intro outv1 x2 gv3 gv4 gv5 gv6
    refine (impl_tableOf_f_v3.b0_eq N K (fun s => xloop (xcode (E29 N) ents impl_tableOf_f_v3.kp 0 N (cL (cK (cB (cA (cB (cB impl_tableOf_f_v3.bd)))))) 0) impl_tableOf_f_v3.kp 0 0 m s (impl_tableOf_f_v3.k0 N K)) nv0 outv1 x2 gv3 gv4 gv5 gv6).trans ?_
    simp only [ih, impl_tableOf_f_v3.l1_eq, impl_tableOf_f_v3.a1_0_eq]
    kernel_rfl
theorem impl_tableOf_f_v3.s_eq {ρ : Type} (N : Nat) (K : AV → Heap → Option ρ) (nv0 : Int) :
    xbody (E29 N) ents impl_tableOf_f_v3.kp N Try.f59 impl_tableOf_f_v3.bd [.int .i64 (nv0), .fn 60 0 []] [] K = (impl_tableOf_f_v3.s N (fun d0 d1 d2 d3 d4 => K (.slice true 0 0 d0 .whole 1) [⟨true, .hdr 1 0 d1 d2 d3 none⟩, ⟨true, .flat 0 (.ints .i64 d4)⟩]) (fun outv1 x2 gv3 gv4 gv5 gv6 => xloop (xcode (E29 N) ents impl_tableOf_f_v3.kp 0 N (cL (cK (cB (cA (cB (cB impl_tableOf_f_v3.bd)))))) 0) impl_tableOf_f_v3.kp 0 0 N (impl_tableOf_f_v3.st0 nv0 outv1 x2 gv3 gv4 gv5 gv6) (impl_tableOf_f_v3.k0 N K))) := by kernel_rfl
theorem impl_tableOf_f_v3.eq {ρ : Type} (N : Nat) (K : AV → Heap → Option ρ) (nv0 : Int) :
    xbody (E29 N) ents impl_tableOf_f_v3.kp N Try.f59 impl_tableOf_f_v3.bd [.int .i64 (nv0), .fn 60 0 []] [] K = (impl_tableOf_f_v3 N (fun d0 d1 d2 d3 d4 => K (.slice true 0 0 d0 .whole 1) [⟨true, .hdr 1 0 d1 d2 d3 none⟩, ⟨true, .flat 0 (.ints .i64 d4)⟩]) nv0) := by
  refine (impl_tableOf_f_v3.s_eq N K nv0).trans ?_
  simp only [impl_tableOf_f_v3.l0_eq, impl_tableOf_f_v3.a0_0_eq]
  kernel_rfl
def impl_tableOf_f_v4.kp : Keeps := ⟨[(0, [0, 1, 5, 10, 11], [], []), (2, [0, 1, 5, 6, 7, 10, 11, 15, 16], [], [])], [(0, [5], [], []), (2, [0, 1, 5, 7, 10, 11], [], [])], []⟩
def impl_tableOf_f_v4.bd : Code := bodyOf Try.f59
def impl_tableOf_f_v4.fin {ρ : Type} (N : Nat) (K : AV → Heap → Option ρ) (gv1 : Nat → Int) (gv2 : Nat) (gv3 : Nat) (gv4 : Nat) (gv5 : Nat) (gv6 : Nat → Nat) (gv7 : Nat → Nat) (gv8 : Nat) (gv9 : Nat) (gv10 : Nat → Nat) (gv11 : Nat → Nat) (gv12 : Nat → Int) (gv13 : Nat → Int) : XE → St → Option ρ := finK (E29 N) impl_tableOf_f_v4.kp.fins Try.f59 [⟨false, .flat 1 (.ints .i64 gv1)⟩, ⟨false, .avs [.slice true 3 0 gv2 .unk 1]⟩, ⟨false, .avs [.slice true 4 0 gv3 .unk 1]⟩, ⟨false, .hdr 5 gv4 gv5 gv6 gv7 none⟩, ⟨false, .hdr 6 gv8 gv9 gv10 gv11 none⟩, ⟨false, .flat 0 (.ints .i64 gv12)⟩, ⟨false, .flat 0 (.ints .i64 gv13)⟩] K
def impl_tableOf_f_v4.k0 {ρ : Type} (N : Nat) (K : AV → Heap → Option ρ) (gv1 : Nat → Int) (gv2 : Nat) (gv3 : Nat) (gv4 : Nat) (gv5 : Nat) (gv6 : Nat → Nat) (gv7 : Nat → Nat) (gv8 : Nat) (gv9 : Nat) (gv10 : Nat → Nat) (gv11 : Nat → Nat) (gv12 : Nat → Int) (gv13 : Nat → Int) : XE → St → Option ρ := (blockK impl_tableOf_f_v4.kp 7 0 (seqK (xcode (E29 N) ents impl_tableOf_f_v4.kp 7 N (cB (cB (cB impl_tableOf_f_v4.bd))) 0) (impl_tableOf_f_v4.fin N K gv1 gv2 gv3 gv4 gv5 gv6 gv7 gv8 gv9 gv10 gv11 gv12 gv13)))
theorem impl_tableOf_f_v4.k0_mix {ρ : Type} (N : Nat) (K : AV → Heap → Option ρ) (gv1 : Nat → Int) (gv2 : Nat) (gv3 : Nat) (gv4 : Nat) (gv5 : Nat) (gv6 : Nat → Nat) (gv7 : Nat → Nat) (gv8 : Nat) (gv9 : Nat) (gv10 : Nat → Nat) (gv11 : Nat → Nat) (gv12 : Nat → Int) (gv13 : Nat → Int) : mixK (impl_tableOf_f_v4.fin N K gv1 gv2 gv3 gv4 gv5 gv6 gv7 gv8 gv9 gv10 gv11 gv12 gv13 .ret) (impl_tableOf_f_v4.k0 N K gv1 gv2 gv3 gv4 gv5 gv6 gv7 gv8 gv9 gv10 gv11 gv12 gv13) = (impl_tableOf_f_v4.k0 N K gv1 gv2 gv3 gv4 gv5 gv6 gv7 gv8 gv9 gv10 gv11 gv12 gv13) := by
  funext e s; cases e <;> kernel_rfl
def impl_tableOf_f_v4.st0 (nv0 : Int) (gv1 : Nat → Int) (gv2 : Nat) (gv3 : Nat) (gv4 : Nat) (gv5 : Nat) (gv6 : Nat → Nat) (gv7 : Nat → Nat) (gv8 : Nat) (gv9 : Nat) (gv10 : Nat → Nat) (gv11 : Nat → Nat) (gv12 : Nat → Int) (gv13 : Nat → Int) (outv14 : Nat) (x15 : Int) (gv16 : Nat) (gv17 : Nat → Nat) (gv18 : Nat → Nat) (gv19 : Nat → Int) : St := ⟨sl 33 [(0, .int .i64 (nv0)), (1, .fn 66 0 [[(0, 1)], [(1, 1)], [(2, 1)]]), (5, .slice true 7 0 outv14 .whole 1), (10, .int .i64 (nv0)), (11, .int .i64 (x15))], [⟨false, .flat 1 (.ints .i64 gv1)⟩, ⟨false, .avs [.slice true 3 0 gv2 .unk 1]⟩, ⟨false, .avs [.slice true 4 0 gv3 .unk 1]⟩, ⟨false, .hdr 5 gv4 gv5 gv6 gv7 none⟩, ⟨false, .hdr 6 gv8 gv9 gv10 gv11 none⟩, ⟨false, .flat 0 (.ints .i64 gv12)⟩, ⟨false, .flat 0 (.ints .i64 gv13)⟩, ⟨true, .hdr 8 0 gv16 gv17 gv18 none⟩, ⟨true, .flat 0 (.ints .i64 gv19)⟩]⟩
def impl_tableOf_f_v4.sx0_0 (gv1 : Nat → Int) (gv2 : Nat) (gv3 : Nat) (gv4 : Nat) (gv5 : Nat) (gv6 : Nat → Nat) (gv7 : Nat → Nat) (gv8 : Nat) (gv9 : Nat) (gv10 : Nat → Nat) (gv11 : Nat → Nat) (gv12 : Nat → Int) (gv13 : Nat → Int) (ov26 : Nat) (ov27 : Nat) (ov28 : Nat → Nat) (ov29 : Nat → Nat) (ov30 : Nat → Int) : St := ⟨sl 33 [(5, .slice true 7 0 ov26 .whole 1)], [⟨false, .flat 1 (.ints .i64 gv1)⟩, ⟨false, .avs [.slice true 3 0 gv2 .unk 1]⟩, ⟨false, .avs [.slice true 4 0 gv3 .unk 1]⟩, ⟨false, .hdr 5 gv4 gv5 gv6 gv7 none⟩, ⟨false, .hdr 6 gv8 gv9 gv10 gv11 none⟩, ⟨false, .flat 0 (.ints .i64 gv12)⟩, ⟨false, .flat 0 (.ints .i64 gv13)⟩, ⟨true, .hdr 8 0 ov27 ov28 ov29 none⟩, ⟨true, .flat 0 (.ints .i64 ov30)⟩]⟩
def impl_tableOf_f_v4.k1g {ρ : Type} (N : Nat) (L0 : St → Option ρ) (kv : XE → St → Option ρ) : XE → St → Option ρ := (blockK impl_tableOf_f_v4.kp 7 2 (seqK (xcode (E29 N) ents impl_tableOf_f_v4.kp 7 N (cB (cB (cB (cK (cA (cB (cB (cL (cK (cB (cA (cB (cB impl_tableOf_f_v4.bd))))))))))))) 1) (blockK impl_tableOf_f_v4.kp 7 1 (seqK (xcode (E29 N) ents impl_tableOf_f_v4.kp 7 N (cB (cB (cB (cL (cK (cB (cA (cB (cB impl_tableOf_f_v4.bd))))))))) 0) (roundK impl_tableOf_f_v4.kp 7 0 L0 kv)))))
theorem impl_tableOf_f_v4.k1_mix {ρ : Type} (N : Nat) (K : AV → Heap → Option ρ) (L0 : St → Option ρ) (gv1 : Nat → Int) (gv2 : Nat) (gv3 : Nat) (gv4 : Nat) (gv5 : Nat) (gv6 : Nat → Nat) (gv7 : Nat → Nat) (gv8 : Nat) (gv9 : Nat) (gv10 : Nat → Nat) (gv11 : Nat → Nat) (gv12 : Nat → Int) (gv13 : Nat → Int) : mixK (impl_tableOf_f_v4.fin N K gv1 gv2 gv3 gv4 gv5 gv6 gv7 gv8 gv9 gv10 gv11 gv12 gv13 .ret) (impl_tableOf_f_v4.k1g N L0 (impl_tableOf_f_v4.k0 N K gv1 gv2 gv3 gv4 gv5 gv6 gv7 gv8 gv9 gv10 gv11 gv12 gv13)) = (impl_tableOf_f_v4.k1g N L0 (impl_tableOf_f_v4.k0 N K gv1 gv2 gv3 gv4 gv5 gv6 gv7 gv8 gv9 gv10 gv11 gv12 gv13)) := by
  funext e s; cases e <;> kernel_rfl
def impl_tableOf_f_v4.st1 (nv0 : Int) (gv1 : Nat → Int) (gv2 : Nat) (gv3 : Nat) (gv4 : Nat) (gv5 : Nat) (gv6 : Nat → Nat) (gv7 : Nat → Nat) (gv8 : Nat) (gv9 : Nat) (gv10 : Nat → Nat) (gv11 : Nat → Nat) (gv12 : Nat → Int) (gv13 : Nat → Int) (outv14 : Nat) (x15 : Int) (gv16 : Nat) (gv17 : Nat → Nat) (gv18 : Nat → Nat) (gv19 : Nat → Int) (row20 : Nat) (x21 : Int) (gv22 : Nat → Int) : St := ⟨sl 33 [(0, .int .i64 (nv0)), (1, .fn 66 0 [[(0, 1)], [(1, 1)], [(2, 1)]]), (5, .slice true 7 0 outv14 .whole 1), (6, .int .i64 (x15)), (7, .slice true 8 0 row20 .whole 1), (10, .int .i64 (nv0)), (11, .int .i64 (x15)), (15, .int .i64 (nv0)), (16, .int .i64 (x21))], [⟨false, .flat 1 (.ints .i64 gv1)⟩, ⟨false, .avs [.slice true 3 0 gv2 .unk 1]⟩, ⟨false, .avs [.slice true 4 0 gv3 .unk 1]⟩, ⟨false, .hdr 5 gv4 gv5 gv6 gv7 none⟩, ⟨false, .hdr 6 gv8 gv9 gv10 gv11 none⟩, ⟨false, .flat 0 (.ints .i64 gv12)⟩, ⟨false, .flat 0 (.ints .i64 gv13)⟩, ⟨true, .hdr 9 0 gv16 gv17 gv18 none⟩, ⟨true, .flat 0 (.ints .i64 gv22)⟩, ⟨true, .flat 0 (.ints .i64 gv19)⟩]⟩
def impl_tableOf_f_v4.sx1_0 (nv0 : Int) (gv1 : Nat → Int) (gv2 : Nat) (gv3 : Nat) (gv4 : Nat) (gv5 : Nat) (gv6 : Nat → Nat) (gv7 : Nat → Nat) (gv8 : Nat) (gv9 : Nat) (gv10 : Nat → Nat) (gv11 : Nat → Nat) (gv12 : Nat → Int) (gv13 : Nat → Int) (outv14 : Nat) (x15 : Int) (gv16 : Nat) (gv17 : Nat → Nat) (gv18 : Nat → Nat) (gv19 : Nat → Int) (ov24 : Nat) (ov25 : Nat → Int) : St := ⟨sl 33 [(0, .int .i64 (nv0)), (1, .fn 66 0 [[(0, 1)], [(1, 1)], [(2, 1)]]), (5, .slice true 7 0 outv14 .whole 1), (7, .slice true 8 0 ov24 .whole 1), (10, .int .i64 (nv0)), (11, .int .i64 (x15))], [⟨false, .flat 1 (.ints .i64 gv1)⟩, ⟨false, .avs [.slice true 3 0 gv2 .unk 1]⟩, ⟨false, .avs [.slice true 4 0 gv3 .unk 1]⟩, ⟨false, .hdr 5 gv4 gv5 gv6 gv7 none⟩, ⟨false, .hdr 6 gv8 gv9 gv10 gv11 none⟩, ⟨false, .flat 0 (.ints .i64 gv12)⟩, ⟨false, .flat 0 (.ints .i64 gv13)⟩, ⟨true, .hdr 9 0 gv16 gv17 gv18 none⟩, ⟨true, .flat 0 (.ints .i64 ov25)⟩, ⟨true, .flat 0 (.ints .i64 gv19)⟩]⟩
theorem impl_tableOf_f_v4.b1_gen {ρ : Type} (N : Nat) (K : AV → Heap → Option ρ) (L1 : St → Option ρ) (kv : XE → St → Option ρ) (nv0 : Int) (gv1 : Nat → Int) (gv2 : Nat) (gv3 : Nat) (gv4 : Nat) (gv5 : Nat) (gv6 : Nat → Nat) (gv7 : Nat → Nat) (gv8 : Nat) (gv9 : Nat) (gv10 : Nat → Nat) (gv11 : Nat → Nat) (gv12 : Nat → Int) (gv13 : Nat → Int) (outv14 : Nat) (x15 : Int) (gv16 : Nat) (gv17 : Nat → Nat) (gv18 : Nat → Nat) (gv19 : Nat → Int) (row20 : Nat) (x21 : Int) (gv22 : Nat → Int) :
    xcode (E29 N) ents impl_tableOf_f_v4.kp 7 N (cL (cK (cB (cA (cB (cB (cK (cA (cB (cB (cL (cK (cB (cA (cB (cB impl_tableOf_f_v4.bd)))))))))))))))) 2 (impl_tableOf_f_v4.st1 nv0 gv1 gv2 gv3 gv4 gv5 gv6 gv7 gv8 gv9 gv10 gv11 gv12 gv13 outv14 x15 gv16 gv17 gv18 gv19 row20 x21 gv22) (roundK impl_tableOf_f_v4.kp 7 2 L1 (mixK (impl_tableOf_f_v4.fin N K gv1 gv2 gv3 gv4 gv5 gv6 gv7 gv8 gv9 gv10 gv11 gv12 gv13 .ret) kv)) = (impl_tableOf_f_v4.b1 N (fun d0 d1 d2 d3 d4 => K (.slice true 7 0 d0 .whole 1) [⟨false, .flat 1 (.ints .i64 gv1)⟩, ⟨false, .avs [.slice true 3 0 gv2 .unk 1]⟩, ⟨false, .avs [.slice true 4 0 gv3 .unk 1]⟩, ⟨false, .hdr 5 gv4 gv5 gv6 gv7 none⟩, ⟨false, .hdr 6 gv8 gv9 gv10 gv11 none⟩, ⟨false, .flat 0 (.ints .i64 gv12)⟩, ⟨false, .flat 0 (.ints .i64 gv13)⟩, ⟨true, .hdr 8 0 d1 d2 d3 none⟩, ⟨true, .flat 0 (.ints .i64 d4)⟩]) (fun row20 x21 gv22 => L1 (impl_tableOf_f_v4.st1 nv0 gv1 gv2 gv3 gv4 gv5 gv6 gv7 gv8 gv9 gv10 gv11 gv12 gv13 outv14 x15 gv16 gv17 gv18 gv19 row20 x21 gv22)) (fun ov24 ov25 => kv (.exit 2) (impl_tableOf_f_v4.sx1_0 nv0 gv1 gv2 gv3 gv4 gv5 gv6 gv7 gv8 gv9 gv10 gv11 gv12 gv13 outv14 x15 gv16 gv17 gv18 gv19 ov24 ov25)) nv0 gv1 gv2 gv3 gv5 gv6 gv7 gv9 gv10 gv11 gv12 gv13 x15 row20 x21 gv22) := by kernel_rfl
theorem impl_tableOf_f_v4.b1_eq {ρ : Type} (N : Nat) (K : AV → Heap → Option ρ) (L0 : St → Option ρ) (L1 : St → Option ρ) (nv0 : Int) (gv1 : Nat → Int) (gv2 : Nat) (gv3 : Nat) (gv4 : Nat) (gv5 : Nat) (gv6 : Nat → Nat) (gv7 : Nat → Nat) (gv8 : Nat) (gv9 : Nat) (gv10 : Nat → Nat) (gv11 : Nat → Nat) (gv12 : Nat → Int) (gv13 : Nat → Int) (outv14 : Nat) (x15 : Int) (gv16 : Nat) (gv17 : Nat → Nat) (gv18 : Nat → Nat) (gv19 : Nat → Int) (row20 : Nat) (x21 : Int) (gv22 : Nat → Int) :
    xcode (E29 N) ents impl_tableOf_f_v4.kp 7 N (cL (cK (cB (cA (cB (cB (cK (cA (cB (cB (cL (cK (cB (cA (cB (cB impl_tableOf_f_v4.bd)))))))))))))))) 2 (impl_tableOf_f_v4.st1 nv0 gv1 gv2 gv3 gv4 gv5 gv6 gv7 gv8 gv9 gv10 gv11 gv12 gv13 outv14 x15 gv16 gv17 gv18 gv19 row20 x21 gv22) (roundK impl_tableOf_f_v4.kp 7 2 L1 (impl_tableOf_f_v4.k1g N L0 (impl_tableOf_f_v4.k0 N K gv1 gv2 gv3 gv4 gv5 gv6 gv7 gv8 gv9 gv10 gv11 gv12 gv13))) = (impl_tableOf_f_v4.b1 N (fun d0 d1 d2 d3 d4 => K (.slice true 7 0 d0 .whole 1) [⟨false, .flat 1 (.ints .i64 gv1)⟩, ⟨false, .avs [.slice true 3 0 gv2 .unk 1]⟩, ⟨false, .avs [.slice true 4 0 gv3 .unk 1]⟩, ⟨false, .hdr 5 gv4 gv5 gv6 gv7 none⟩, ⟨false, .hdr 6 gv8 gv9 gv10 gv11 none⟩, ⟨false, .flat 0 (.ints .i64 gv12)⟩, ⟨false, .flat 0 (.ints .i64 gv13)⟩, ⟨true, .hdr 8 0 d1 d2 d3 none⟩, ⟨true, .flat 0 (.ints .i64 d4)⟩]) (fun row20 x21 gv22 => L1 (impl_tableOf_f_v4.st1 nv0 gv1 gv2 gv3 gv4 gv5 gv6 gv7 gv8 gv9 gv10 gv11 gv12 gv13 outv14 x15 gv16 gv17 gv18 gv19 row20 x21 gv22)) (fun ov24 ov25 => (impl_tableOf_f_v4.k1g N L0 (impl_tableOf_f_v4.k0 N K gv1 gv2 gv3 gv4 gv5 gv6 gv7 gv8 gv9 gv10 gv11 gv12 gv13)) (.exit 2) (impl_tableOf_f_v4.sx1_0 nv0 gv1 gv2 gv3 gv4 gv5 gv6 gv7 gv8 gv9 gv10 gv11 gv12 gv13 outv14 x15 gv16 gv17 gv18 gv19 ov24 ov25)) nv0 gv1 gv2 gv3 gv5 gv6 gv7 gv9 gv10 gv11 gv12 gv13 x15 row20 x21 gv22) := by
  have h := impl_tableOf_f_v4.b1_gen N K L1 (impl_tableOf_f_v4.k1g N L0 (impl_tableOf_f_v4.k0 N K gv1 gv2 gv3 gv4 gv5 gv6 gv7 gv8 gv9 gv10 gv11 gv12 gv13)) nv0 gv1 gv2 gv3 gv4 gv5 gv6 gv7 gv8 gv9 gv10 gv11 gv12 gv13 outv14 x15 gv16 gv17 gv18 gv19 row20 x21 gv22
  rw [impl_tableOf_f_v4.k1_mix] at h
  exact h
theorem impl_tableOf_f_v4.a1_0_gen {ρ : Type} (N : Nat) (K : AV → Heap → Option ρ) (L0 : St → Option ρ) (kv : XE → St → Option ρ) (nv0 : Int) (gv1 : Nat → Int) (gv2 : Nat) (gv3 : Nat) (gv4 : Nat) (gv5 : Nat) (gv6 : Nat → Nat) (gv7 : Nat → Nat) (gv8 : Nat) (gv9 : Nat) (gv10 : Nat → Nat) (gv11 : Nat → Nat) (gv12 : Nat → Int) (gv13 : Nat → Int) (outv14 : Nat) (x15 : Int) (gv16 : Nat) (gv17 : Nat → Nat) (gv18 : Nat → Nat) (gv19 : Nat → Int) (ov24 : Nat) (ov25 : Nat → Int) :
    (impl_tableOf_f_v4.k1g N L0 (mixK (impl_tableOf_f_v4.fin N K gv1 gv2 gv3 gv4 gv5 gv6 gv7 gv8 gv9 gv10 gv11 gv12 gv13 .ret) kv)) (.exit 2) (impl_tableOf_f_v4.sx1_0 nv0 gv1 gv2 gv3 gv4 gv5 gv6 gv7 gv8 gv9 gv10 gv11 gv12 gv13 outv14 x15 gv16 gv17 gv18 gv19 ov24 ov25) = (impl_tableOf_f_v4.a1_0 N (fun d0 d1 d2 d3 d4 => K (.slice true 7 0 d0 .whole 1) [⟨false, .flat 1 (.ints .i64 gv1)⟩, ⟨false, .avs [.slice true 3 0 gv2 .unk 1]⟩, ⟨false, .avs [.slice true 4 0 gv3 .unk 1]⟩, ⟨false, .hdr 5 gv4 gv5 gv6 gv7 none⟩, ⟨false, .hdr 6 gv8 gv9 gv10 gv11 none⟩, ⟨false, .flat 0 (.ints .i64 gv12)⟩, ⟨false, .flat 0 (.ints .i64 gv13)⟩, ⟨true, .hdr 8 0 d1 d2 d3 none⟩, ⟨true, .flat 0 (.ints .i64 d4)⟩]) (fun outv14 x15 gv16 gv17 gv18 gv19 => L0 (impl_tableOf_f_v4.st0 nv0 gv1 gv2 gv3 gv4 gv5 gv6 gv7 gv8 gv9 gv10 gv11 gv12 gv13 outv14 x15 gv16 gv17 gv18 gv19)) (fun ov26 ov27 ov28 ov29 ov30 => kv (.exit 0) (impl_tableOf_f_v4.sx0_0 gv1 gv2 gv3 gv4 gv5 gv6 gv7 gv8 gv9 gv10 gv11 gv12 gv13 ov26 ov27 ov28 ov29 ov30)) outv14 x15 gv16 gv17 gv18 gv19 ov24 ov25) := by kernel_rfl
theorem impl_tableOf_f_v4.a1_0_eq {ρ : Type} (N : Nat) (K : AV → Heap → Option ρ) (L0 : St → Option ρ) (nv0 : Int) (gv1 : Nat → Int) (gv2 : Nat) (gv3 : Nat) (gv4 : Nat) (gv5 : Nat) (gv6 : Nat → Nat) (gv7 : Nat → Nat) (gv8 : Nat) (gv9 : Nat) (gv10 : Nat → Nat) (gv11 : Nat → Nat) (gv12 : Nat → Int) (gv13 : Nat → Int) (outv14 : Nat) (x15 : Int) (gv16 : Nat) (gv17 : Nat → Nat) (gv18 : Nat → Nat) (gv19 : Nat → Int) (ov24 : Nat) (ov25 : Nat → Int) :
    (impl_tableOf_f_v4.k1g N L0 (impl_tableOf_f_v4.k0 N K gv1 gv2 gv3 gv4 gv5 gv6 gv7 gv8 gv9 gv10 gv11 gv12 gv13)) (.exit 2) (impl_tableOf_f_v4.sx1_0 nv0 gv1 gv2 gv3 gv4 gv5 gv6 gv7 gv8 gv9 gv10 gv11 gv12 gv13 outv14 x15 gv16 gv17 gv18 gv19 ov24 ov25) = (impl_tableOf_f_v4.a1_0 N (fun d0 d1 d2 d3 d4 => K (.slice true 7 0 d0 .whole 1) [⟨false, .flat 1 (.ints .i64 gv1)⟩, ⟨false, .avs [.slice true 3 0 gv2 .unk 1]⟩, ⟨false, .avs [.slice true 4 0 gv3 .unk 1]⟩, ⟨false, .hdr 5 gv4 gv5 gv6 gv7 none⟩, ⟨false, .hdr 6 gv8 gv9 gv10 gv11 none⟩, ⟨false, .flat 0 (.ints .i64 gv12)⟩, ⟨false, .flat 0 (.ints .i64 gv13)⟩, ⟨true, .hdr 8 0 d1 d2 d3 none⟩, ⟨true, .flat 0 (.ints .i64 d4)⟩]) (fun outv14 x15 gv16 gv17 gv18 gv19 => L0 (impl_tableOf_f_v4.st0 nv0 gv1 gv2 gv3 gv4 gv5 gv6 gv7 gv8 gv9 gv10 gv11 gv12 gv13 outv14 x15 gv16 gv17 gv18 gv19)) (fun ov26 ov27 ov28 ov29 ov30 => (impl_tableOf_f_v4.k0 N K gv1 gv2 gv3 gv4 gv5 gv6 gv7 gv8 gv9 gv10 gv11 gv12 gv13) (.exit 0) (impl_tableOf_f_v4.sx0_0 gv1 gv2 gv3 gv4 gv5 gv6 gv7 gv8 gv9 gv10 gv11 gv12 gv13 ov26 ov27 ov28 ov29 ov30)) outv14 x15 gv16 gv17 gv18 gv19 ov24 ov25) := by
  have h := impl_tableOf_f_v4.a1_0_gen N K L0 (impl_tableOf_f_v4.k0 N K gv1 gv2 gv3 gv4 gv5 gv6 gv7 gv8 gv9 gv10 gv11 gv12 gv13) nv0 gv1 gv2 gv3 gv4 gv5 gv6 gv7 gv8 gv9 gv10 gv11 gv12 gv13 outv14 x15 gv16 gv17 gv18 gv19 ov24 ov25
  rw [impl_tableOf_f_v4.k0_mix] at h
  exact h
theorem impl_tableOf_f_v4.b0_gen {ρ : Type} (N : Nat) (K : AV → Heap → Option ρ) (L0 : St → Option ρ) (kv : XE → St → Option ρ) (nv0 : Int) (gv1 : Nat → Int) (gv2 : Nat) (gv3 : Nat) (gv4 : Nat) (gv5 : Nat) (gv6 : Nat → Nat) (gv7 : Nat → Nat) (gv8 : Nat) (gv9 : Nat) (gv10 : Nat → Nat) (gv11 : Nat → Nat) (gv12 : Nat → Int) (gv13 : Nat → Int) (outv14 : Nat) (x15 : Int) (gv16 : Nat) (gv17 : Nat → Nat) (gv18 : Nat → Nat) (gv19 : Nat → Int) :
    xcode (E29 N) ents impl_tableOf_f_v4.kp 7 N (cL (cK (cB (cA (cB (cB impl_tableOf_f_v4.bd)))))) 0 (impl_tableOf_f_v4.st0 nv0 gv1 gv2 gv3 gv4 gv5 gv6 gv7 gv8 gv9 gv10 gv11 gv12 gv13 outv14 x15 gv16 gv17 gv18 gv19) (roundK impl_tableOf_f_v4.kp 7 0 L0 (mixK (impl_tableOf_f_v4.fin N K gv1 gv2 gv3 gv4 gv5 gv6 gv7 gv8 gv9 gv10 gv11 gv12 gv13 .ret) kv)) = (impl_tableOf_f_v4.b0 N (fun d0 d1 d2 d3 d4 => K (.slice true 7 0 d0 .whole 1) [⟨false, .flat 1 (.ints .i64 gv1)⟩, ⟨false, .avs [.slice true 3 0 gv2 .unk 1]⟩, ⟨false, .avs [.slice true 4 0 gv3 .unk 1]⟩, ⟨false, .hdr 5 gv4 gv5 gv6 gv7 none⟩, ⟨false, .hdr 6 gv8 gv9 gv10 gv11 none⟩, ⟨false, .flat 0 (.ints .i64 gv12)⟩, ⟨false, .flat 0 (.ints .i64 gv13)⟩, ⟨true, .hdr 8 0 d1 d2 d3 none⟩, ⟨true, .flat 0 (.ints .i64 d4)⟩]) (fun row20 x21 gv22 => xloop (xcode (E29 N) ents impl_tableOf_f_v4.kp 7 N (cL (cK (cB (cA (cB (cB (cK (cA (cB (cB (cL (cK (cB (cA (cB (cB impl_tableOf_f_v4.bd)))))))))))))))) 2) impl_tableOf_f_v4.kp 7 2 N (impl_tableOf_f_v4.st1 nv0 gv1 gv2 gv3 gv4 gv5 gv6 gv7 gv8 gv9 gv10 gv11 gv12 gv13 outv14 x15 gv16 gv17 gv18 gv19 row20 x21 gv22) (impl_tableOf_f_v4.k1g N L0 (mixK (impl_tableOf_f_v4.fin N K gv1 gv2 gv3 gv4 gv5 gv6 gv7 gv8 gv9 gv10 gv11 gv12 gv13 .ret) kv))) (fun outv14 x15 gv16 gv17 gv18 gv19 => L0 (impl_tableOf_f_v4.st0 nv0 gv1 gv2 gv3 gv4 gv5 gv6 gv7 gv8 gv9 gv10 gv11 gv12 gv13 outv14 x15 gv16 gv17 gv18 gv19)) (fun ov26 ov27 ov28 ov29 ov30 => kv (.exit 0) (impl_tableOf_f_v4.sx0_0 gv1 gv2 gv3 gv4 gv5 gv6 gv7 gv8 gv9 gv10 gv11 gv12 gv13 ov26 ov27 ov28 ov29 ov30)) nv0 outv14 x15 gv16 gv17 gv18 gv19) := by kernel_rfl
theorem impl_tableOf_f_v4.b0_eq {ρ : Type} (N : Nat) (K : AV → Heap → Option ρ) (L0 : St → Option ρ) (nv0 : Int) (gv1 : Nat → Int) (gv2 : Nat) (gv3 : Nat) (gv4 : Nat) (gv5 : Nat) (gv6 : Nat → Nat) (gv7 : Nat → Nat) (gv8 : Nat) (gv9 : Nat) (gv10 : Nat → Nat) (gv11 : Nat → Nat) (gv12 : Nat → Int) (gv13 : Nat → Int) (outv14 : Nat) (x15 : Int) (gv16 : Nat) (gv17 : Nat → Nat) (gv18 : Nat → Nat) (gv19 : Nat → Int) :
    xcode (E29 N) ents impl_tableOf_f_v4.kp 7 N (cL (cK (cB (cA (cB (cB impl_tableOf_f_v4.bd)))))) 0 (impl_tableOf_f_v4.st0 nv0 gv1 gv2 gv3 gv4 gv5 gv6 gv7 gv8 gv9 gv10 gv11 gv12 gv13 outv14 x15 gv16 gv17 gv18 gv19) (roundK impl_tableOf_f_v4.kp 7 0 L0 (impl_tableOf_f_v4.k0 N K gv1 gv2 gv3 gv4 gv5 gv6 gv7 gv8 gv9 gv10 gv11 gv12 gv13)) = (impl_tableOf_f_v4.b0 N (fun d0 d1 d2 d3 d4 => K (.slice true 7 0 d0 .whole 1) [⟨false, .flat 1 (.ints .i64 gv1)⟩, ⟨false, .avs [.slice true 3 0 gv2 .unk 1]⟩, ⟨false, .avs [.slice true 4 0 gv3 .unk 1]⟩, ⟨false, .hdr 5 gv4 gv5 gv6 gv7 none⟩, ⟨false, .hdr 6 gv8 gv9 gv10 gv11 none⟩, ⟨false, .flat 0 (.ints .i64 gv12)⟩, ⟨false, .flat 0 (.ints .i64 gv13)⟩, ⟨true, .hdr 8 0 d1 d2 d3 none⟩, ⟨true, .flat 0 (.ints .i64 d4)⟩]) (fun row20 x21 gv22 => xloop (xcode (E29 N) ents impl_tableOf_f_v4.kp 7 N (cL (cK (cB (cA (cB (cB (cK (cA (cB (cB (cL (cK (cB (cA (cB (cB impl_tableOf_f_v4.bd)))))))))))))))) 2) impl_tableOf_f_v4.kp 7 2 N (impl_tableOf_f_v4.st1 nv0 gv1 gv2 gv3 gv4 gv5 gv6 gv7 gv8 gv9 gv10 gv11 gv12 gv13 outv14 x15 gv16 gv17 gv18 gv19 row20 x21 gv22) (impl_tableOf_f_v4.k1g N L0 (impl_tableOf_f_v4.k0 N K gv1 gv2 gv3 gv4 gv5 gv6 gv7 gv8 gv9 gv10 gv11 gv12 gv13))) (fun outv14 x15 gv16 gv17 gv18 gv19 => L0 (impl_tableOf_f_v4.st0 nv0 gv1 gv2 gv3 gv4 gv5 gv6 gv7 gv8 gv9 gv10 gv11 gv12 gv13 outv14 x15 gv16 gv17 gv18 gv19)) (fun ov26 ov27 ov28 ov29 ov30 => (impl_tableOf_f_v4.k0 N K gv1 gv2 gv3 gv4 gv5 gv6 gv7 gv8 gv9 gv10 gv11 gv12 gv13) (.exit 0) (impl_tableOf_f_v4.sx0_0 gv1 gv2 gv3 gv4 gv5 gv6 gv7 gv8 gv9 gv10 gv11 gv12 gv13 ov26 ov27 ov28 ov29 ov30)) nv0 outv14 x15 gv16 gv17 gv18 gv19) := by
  have h := impl_tableOf_f_v4.b0_gen N K L0 (impl_tableOf_f_v4.k0 N K gv1 gv2 gv3 gv4 gv5 gv6 gv7 gv8 gv9 gv10 gv11 gv12 gv13) nv0 gv1 gv2 gv3 gv4 gv5 gv6 gv7 gv8 gv9 gv10 gv11 gv12 gv13 outv14 x15 gv16 gv17 gv18 gv19
  rw [impl_tableOf_f_v4.k0_mix] at h
  exact h
theorem impl_tableOf_f_v4.a0_0_eq {ρ : Type} (N : Nat) (K : AV → Heap → Option ρ) (gv1 : Nat → Int) (gv2 : Nat) (gv3 : Nat) (gv4 : Nat) (gv5 : Nat) (gv6 : Nat → Nat) (gv7 : Nat → Nat) (gv8 : Nat) (gv9 : Nat) (gv10 : Nat → Nat) (gv11 : Nat → Nat) (gv12 : Nat → Int) (gv13 : Nat → Int) (ov26 : Nat) (ov27 : Nat) (ov28 : Nat → Nat) (ov29 : Nat → Nat) (ov30 : Nat → Int) :
    (impl_tableOf_f_v4.k0 N K gv1 gv2 gv3 gv4 gv5 gv6 gv7 gv8 gv9 gv10 gv11 gv12 gv13) (.exit 0) (impl_tableOf_f_v4.sx0_0 gv1 gv2 gv3 gv4 gv5 gv6 gv7 gv8 gv9 gv10 gv11 gv12 gv13 ov26 ov27 ov28 ov29 ov30) = (impl_tableOf_f_v4.a0_0 N (fun d0 d1 d2 d3 d4 => K (.slice true 7 0 d0 .whole 1) [⟨false, .flat 1 (.ints .i64 gv1)⟩, ⟨false, .avs [.slice true 3 0 gv2 .unk 1]⟩, ⟨false, .avs [.slice true 4 0 gv3 .unk 1]⟩, ⟨false, .hdr 5 gv4 gv5 gv6 gv7 none⟩, ⟨false, .hdr 6 gv8 gv9 gv10 gv11 none⟩, ⟨false, .flat 0 (.ints .i64 gv12)⟩, ⟨false, .flat 0 (.ints .i64 gv13)⟩, ⟨true, .hdr 8 0 d1 d2 d3 none⟩, ⟨true, .flat 0 (.ints .i64 d4)⟩]) ov26 ov27 ov28 ov29 ov30) := by kernel_rfl
theorem impl_tableOf_f_v4.l1_eq {ρ : Type} (N : Nat) (K : AV → Heap → Option ρ) (L0 : St → Option ρ) (nv0 : Int) (gv1 : Nat → Int) (gv2 : Nat) (gv3 : Nat) (gv4 : Nat) (gv5 : Nat) (gv6 : Nat → Nat) (gv7 : Nat → Nat) (gv8 : Nat) (gv9 : Nat) (gv10 : Nat → Nat) (gv11 : Nat → Nat) (gv12 : Nat → Int) (gv13 : Nat → Int) (outv14 : Nat) (x15 : Int) (gv16 : Nat) (gv17 : Nat → Nat) (gv18 : Nat → Nat) (gv19 : Nat → Int) :
    ∀ (m : Nat) (row20 : Nat) (x21 : Int) (gv22 : Nat → Int), xloop (xcode (E29 N) ents impl_tableOf_f_v4.kp 7 N (cL (cK (cB (cA (cB (cB (cK (cA (cB (cB (cL (cK (cB (cA (cB (cB impl_tableOf_f_v4.bd)))))))))))))))) 2) impl_tableOf_f_v4.kp 7 2 m (impl_tableOf_f_v4.st1 nv0 gv1 gv2 gv3 gv4 gv5 gv6 gv7 gv8 gv9 gv10 gv11 gv12 gv13 outv14 x15 gv16 gv17 gv18 gv19 row20 x21 gv22) (impl_tableOf_f_v4.k1g N L0 (impl_tableOf_f_v4.k0 N K gv1 gv2 gv3 gv4 gv5 gv6 gv7 gv8 gv9 gv10 gv11 gv12 gv13)) = (impl_tableOf_f_v4.l1 N (fun d0 d1 d2 d3 d4 => K (.slice true 7 0 d0 .whole 1) [⟨false, .flat 1 (.ints .i64 gv1)⟩, ⟨false, .avs [.slice true 3 0 gv2 .unk 1]⟩, ⟨false, .avs [.slice true 4 0 gv3 .unk 1]⟩, ⟨false, .hdr 5 gv4 gv5 gv6 gv7 none⟩, ⟨false, .hdr 6 gv8 gv9 gv10 gv11 none⟩, ⟨false, .flat 0 (.ints .i64 gv12)⟩, ⟨false, .flat 0 (.ints .i64 gv13)⟩, ⟨true, .hdr 8 0 d1 d2 d3 none⟩, ⟨true, .flat 0 (.ints .i64 d4)⟩]) nv0 gv1 gv2 gv3 gv5 gv6 gv7 gv9 gv10 gv11 gv12 gv13 x15 (fun ov24 ov25 => (impl_tableOf_f_v4.k1g N L0 (impl_tableOf_f_v4.k0 N K gv1 gv2 gv3 gv4 gv5 gv6 gv7 gv8 gv9 gv10 gv11 gv12 gv13)) (.exit 2) (impl_tableOf_f_v4.sx1_0 nv0 gv1 gv2 gv3 gv4 gv5 gv6 gv7 gv8 gv9 gv10 gv11 gv12 gv13 outv14 x15 gv16 gv17 gv18 gv19 ov24 ov25)) m row20 x21 gv22) := by
  intro m
  induction m with
  | zero => intros; rfl
  | succ m ih =>
    intro row20 x21 gv22
    refine (impl_tableOf_f_v4.b1_eq N K L0 (fun s => xloop (xcode (E29 N) ents impl_tableOf_f_v4.kp 7 N (cL (cK (cB (cA (cB (cB (cK (cA (cB (cB (cL (cK (cB (cA (cB (cB impl_tableOf_f_v4.bd)))))))))))))))) 2) impl_tableOf_f_v4.kp 7 2 m s (impl_tableOf_f_v4.k1g N L0 (impl_tableOf_f_v4.k0 N K gv1 gv2 gv3 gv4 gv5 gv6 gv7 gv8 gv9 gv10 gv11 gv12 gv13))) nv0 gv1 gv2 gv3 gv4 gv5 gv6 gv7 gv8 gv9 gv10 gv11 gv12 gv13 outv14 x15 gv16 gv17 gv18 gv19 row20 x21 gv22).trans ?_
    simp only [ih]
    kernel_rfl
theorem impl_tableOf_f_v4.l0_eq {ρ : Type} (N : Nat) (K : AV → Heap → Option ρ) (nv0 : Int) (gv1 : Nat → Int) (gv2 : Nat) (gv3 : Nat) (gv4 : Nat) (gv5 : Nat) (gv6 : Nat → Nat) (gv7 : Nat → Nat) (gv8 : Nat) (gv9 : Nat) (gv10 : Nat → Nat) (gv11 : Nat → Nat) (gv12 : Nat → Int) (gv13 : Nat → Int) :
    ∀ (m : Nat) (outv14 : Nat) (x15 : Int) (gv16 : Nat) (gv17 : Nat → Nat) (gv18 : Nat → Nat) (gv19 : Nat → Int), xloop (xcode (E29 N) ents impl_tableOf_f_v4.kp 7 N (cL (cK (cB (cA (cB (cB impl_tableOf_f_v4.bd)))))) 0) impl_tableOf_f_v4.kp 7 0 m (impl_tableOf_f_v4.st0 nv0 gv1 gv2 gv3 gv4 gv5 gv6 gv7 gv8 gv9 gv10 gv11 gv12 gv13 outv14 x15 gv16 gv17 gv18 gv19) (impl_tableOf_f_v4.k0 N K gv1 gv2 gv3 gv4 gv5 gv6 gv7 gv8 gv9 gv10 gv11 gv12 gv13) = (impl_tableOf_f_v4.l0 N (fun d0 d1 d2 d3 d4 => K (.slice true 7 0 d0 .whole 1) [⟨false, .flat 1 (.ints .i64 gv1)⟩, ⟨false, .avs [.slice true 3 0 gv2 .unk 1]⟩, ⟨false, .avs [.slice true 4 0 gv3 .unk 1]⟩, ⟨false, .hdr 5 gv4 gv5 gv6 gv7 none⟩, ⟨false, .hdr 6 gv8 gv9 gv10 gv11 none⟩, ⟨false, .flat 0 (.ints .i64 gv12)⟩, ⟨false, .flat 0 (.ints .i64 gv13)⟩, ⟨true, .hdr 8 0 d1 d2 d3 none⟩, ⟨true, .flat 0 (.ints .i64 d4)⟩]) nv0 gv1 gv2 gv3 gv5 gv6 gv7 gv9 gv10 gv11 gv12 gv13 (fun ov26 ov27 ov28 ov29 ov30 => (impl_tableOf_f_v4.k0 N K gv1 gv2 gv3 gv4 gv5 gv6 gv7 gv8 gv9 gv10 gv11 gv12 gv13) (.exit 0) (impl_tableOf_f_v4.sx0_0 gv1 gv2 gv3 gv4 gv5 gv6 gv7 gv8 gv9 gv10 gv11 gv12 gv13 ov26 ov27 ov28 ov29 ov30)) m outv14 x15 gv16 gv17 gv18 gv19) := by
  intro m
  induction m with
  | zero => intros; rfl
  | succ m ih =>
    intro outv14 x15 gv16 gv17 gv18 gv19
    refine (impl_tableOf_f_v4.b0_eq N K (fun s => xloop (xcode (E29 N) ents impl_tableOf_f_v4.kp 7 N (cL (cK (cB (cA (cB (cB impl_tableOf_f_v4.bd)))))) 0) impl_tableOf_f_v4.kp 7 0 m s (impl_tableOf_f_v4.k0 N K gv1 gv2 gv3 gv4 gv5 gv6 gv7 gv8 gv9 gv10 gv11 gv12 gv13)) nv0 gv1 gv2 gv3 gv4 gv5 gv6 gv7 gv8 gv9 gv10 gv11 gv12 gv13 outv14 x15 gv16 gv17 gv18 gv19).trans ?_
    simp only [ih, impl_tableOf_f_v4.l1_eq, impl_tableOf_f_v4.a1_0_eq]
    kernel_rfl
theorem impl_tableOf_f_v4.s_eq {ρ : Type} (N : Nat) (K : AV → Heap → Option ρ) (nv0 : Int) (gv1 : Nat → Int) (gv2 : Nat) (gv3 : Nat) (gv4 : Nat) (gv5 : Nat) (gv6 : Nat → Nat) (gv7 : Nat → Nat) (gv8 : Nat) (gv9 : Nat) (gv10 : Nat → Nat) (gv11 : Nat → Nat) (gv12 : Nat → Int) (gv13 : Nat → Int) :
    xbody (E29 N) ents impl_tableOf_f_v4.kp N Try.f59 impl_tableOf_f_v4.bd [.int .i64 (nv0), .fn 66 0 [[(0, 1)], [(1, 1)], [(2, 1)]]] [⟨false, .flat 1 (.ints .i64 gv1)⟩, ⟨false, .avs [.slice true 3 0 gv2 .unk 1]⟩, ⟨false, .avs [.slice true 4 0 gv3 .unk 1]⟩, ⟨false, .hdr 5 gv4 gv5 gv6 gv7 none⟩, ⟨false, .hdr 6 gv8 gv9 gv10 gv11 none⟩, ⟨false, .flat 0 (.ints .i64 gv12)⟩, ⟨false, .flat 0 (.ints .i64 gv13)⟩] K = (impl_tableOf_f_v4.s N (fun d0 d1 d2 d3 d4 => K (.slice true 7 0 d0 .whole 1) [⟨false, .flat 1 (.ints .i64 gv1)⟩, ⟨false, .avs [.slice true 3 0 gv2 .unk 1]⟩, ⟨false, .avs [.slice true 4 0 gv3 .unk 1]⟩, ⟨false, .hdr 5 gv4 gv5 gv6 gv7 none⟩, ⟨false, .hdr 6 gv8 gv9 gv10 gv11 none⟩, ⟨false, .flat 0 (.ints .i64 gv12)⟩, ⟨false, .flat 0 (.ints .i64 gv13)⟩, ⟨true, .hdr 8 0 d1 d2 d3 none⟩, ⟨true, .flat 0 (.ints .i64 d4)⟩]) (fun outv14 x15 gv16 gv17 gv18 gv19 => xloop (xcode (E29 N) ents impl_tableOf_f_v4.kp 7 N (cL (cK (cB (cA (cB (cB impl_tableOf_f_v4.bd)))))) 0) impl_tableOf_f_v4.kp 7 0 N (impl_tableOf_f_v4.st0 nv0 gv1 gv2 gv3 gv4 gv5 gv6 gv7 gv8 gv9 gv10 gv11 gv12 gv13 outv14 x15 gv16 gv17 gv18 gv19) (impl_tableOf_f_v4.k0 N K gv1 gv2 gv3 gv4 gv5 gv6 gv7 gv8 gv9 gv10 gv11 gv12 gv13))) := by kernel_rfl
theorem impl_tableOf_f_v4.eq {ρ : Type} (N : Nat) (K : AV → Heap → Option ρ) (nv0 : Int) (gv1 : Nat → Int) (gv2 : Nat) (gv3 : Nat) (gv4 : Nat) (gv5 : Nat) (gv6 : Nat → Nat) (gv7 : Nat → Nat) (gv8 : Nat) (gv9 : Nat) (gv10 : Nat → Nat) (gv11 : Nat → Nat) (gv12 : Nat → Int) (gv13 : Nat → Int) :
    xbody (E29 N) ents impl_tableOf_f_v4.kp N Try.f59 impl_tableOf_f_v4.bd [.int .i64 (nv0), .fn 66 0 [[(0, 1)], [(1, 1)], [(2, 1)]]] [⟨false, .flat 1 (.ints .i64 gv1)⟩, ⟨false, .avs [.slice true 3 0 gv2 .unk 1]⟩, ⟨false, .avs [.slice true 4 0 gv3 .unk 1]⟩, ⟨false, .hdr 5 gv4 gv5 gv6 gv7 none⟩, ⟨false, .hdr 6 gv8 gv9 gv10 gv11 none⟩, ⟨false, .flat 0 (.ints .i64 gv12)⟩, ⟨false, .flat 0 (.ints .i64 gv13)⟩] K = (impl_tableOf_f_v4 N (fun d0 d1 d2 d3 d4 => K (.slice true 7 0 d0 .whole 1) [⟨false, .flat 1 (.ints .i64 gv1)⟩, ⟨false, .avs [.slice true 3 0 gv2 .unk 1]⟩, ⟨false, .avs [.slice true 4 0 gv3 .unk 1]⟩, ⟨false, .hdr 5 gv4 gv5 gv6 gv7 none⟩, ⟨false, .hdr 6 gv8 gv9 gv10 gv11 none⟩, ⟨false, .flat 0 (.ints .i64 gv12)⟩, ⟨false, .flat 0 (.ints .i64 gv13)⟩, ⟨true, .hdr 8 0 d1 d2 d3 none⟩, ⟨true, .flat 0 (.ints .i64 d4)⟩]) nv0 gv1 gv2 gv3 gv4 gv5 gv6 gv7 gv8 gv9 gv10 gv11 gv12 gv13) := by
  refine (impl_tableOf_f_v4.s_eq N K nv0 gv1 gv2 gv3 gv4 gv5 gv6 gv7 gv8 gv9 gv10 gv11 gv12 gv13).trans ?_
  simp only [impl_tableOf_f_v4.l0_eq, impl_tableOf_f_v4.a0_0_eq]
  kernel_rfl
def impl_tableOf_f.en (N : Nat) (ρ : Type) : List AV → Heap → (AV → Heap → Option ρ) → Option ρ
  | [.int .i64 (nv0), .fn 67 0 [[(0, 1)]]], [⟨false, .flat 1 (.ints .i64 gv1)⟩], K => (impl_tableOf_f N (fun d0 d1 d2 d3 d4 => K (.slice true 1 0 d0 .whole 1) [⟨false, .flat 1 (.ints .i64 gv1)⟩, ⟨true, .hdr 2 0 d1 d2 d3 none⟩, ⟨true, .flat 0 (.ints .i64 d4)⟩]) nv0 gv1)
  | [.int .i64 (nv0), .fn 68 0 [[(0, 1)]]], [⟨false, .flat 1 (.ints .i64 gv1)⟩], K => (impl_tableOf_f_v2 N (fun d0 d1 d2 d3 d4 => K (.slice true 1 0 d0 .whole 1) [⟨false, .flat 1 (.ints .i64 gv1)⟩, ⟨true, .hdr 2 0 d1 d2 d3 none⟩, ⟨true, .flat 0 (.ints .i64 d4)⟩]) nv0 gv1)
  | [.int .i64 (nv0), .fn 60 0 []], [], K => (impl_tableOf_f_v3 N (fun d0 d1 d2 d3 d4 => K (.slice true 0 0 d0 .whole 1) [⟨true, .hdr 1 0 d1 d2 d3 none⟩, ⟨true, .flat 0 (.ints .i64 d4)⟩]) nv0)
  | [.int .i64 (nv0), .fn 66 0 [[(0, 1)], [(1, 1)], [(2, 1)]]], [⟨false, .flat 1 (.ints .i64 gv1)⟩, ⟨false, .avs [.slice true 3 0 gv2 .unk 1]⟩, ⟨false, .avs [.slice true 4 0 gv3 .unk 1]⟩, ⟨false, .hdr 5 gv4 gv5 gv6 gv7 none⟩, ⟨false, .hdr 6 gv8 gv9 gv10 gv11 none⟩, ⟨false, .flat 0 (.ints .i64 gv12)⟩, ⟨false, .flat 0 (.ints .i64 gv13)⟩], K => (impl_tableOf_f_v4 N (fun d0 d1 d2 d3 d4 => K (.slice true 7 0 d0 .whole 1) [⟨false, .flat 1 (.ints .i64 gv1)⟩, ⟨false, .avs [.slice true 3 0 gv2 .unk 1]⟩, ⟨false, .avs [.slice true 4 0 gv3 .unk 1]⟩, ⟨false, .hdr 5 gv4 gv5 gv6 gv7 none⟩, ⟨false, .hdr 6 gv8 gv9 gv10 gv11 none⟩, ⟨false, .flat 0 (.ints .i64 gv12)⟩, ⟨false, .flat 0 (.ints .i64 gv13)⟩, ⟨true, .hdr 8 0 d1 d2 d3 none⟩, ⟨true, .flat 0 (.ints .i64 d4)⟩]) nv0 gv1 gv2 gv3 gv4 gv5 gv6 gv7 gv8 gv9 gv10 gv11 gv12 gv13)
  | _, _, _ => none
theorem impl_tableOf_f.en_ok (N : Nat) (hE : EnvOk (E29 N) ents) (ρ : Type) (args : List AV) (sh : Heap) (K : AV → Heap → Option ρ) (r : ρ) (h : impl_tableOf_f.en N ρ args sh K = some r) : ∃ v sh', K v sh' = some r ∧ FnOk (E29 N).P 59 args sh v sh' := by
  unfold impl_tableOf_f.en at h
  split at h
  · exact fn_ok hE (kp := impl_tableOf_f.kp) (N := N) Try.func59 (c := impl_tableOf_f.bd) (by kernel_rfl) ((impl_tableOf_f.eq N _ _ _).trans h)
  · exact fn_ok hE (kp := impl_tableOf_f_v2.kp) (N := N) Try.func59 (c := impl_tableOf_f_v2.bd) (by kernel_rfl) ((impl_tableOf_f_v2.eq N _ _ _).trans h)
  · exact fn_ok hE (kp := impl_tableOf_f_v3.kp) (N := N) Try.func59 (c := impl_tableOf_f_v3.bd) (by kernel_rfl) ((impl_tableOf_f_v3.eq N _ _).trans h)
  · exact fn_ok hE (kp := impl_tableOf_f_v4.kp) (N := N) Try.func59 (c := impl_tableOf_f_v4.bd) (by kernel_rfl) ((impl_tableOf_f_v4.eq N _ _ _ _ _ _ _ _ _ _ _ _ _ _ _).trans h)
  · cases h
def E30 (N : Nat) : Env := (E29 N).add 59 (impl_tableOf_f.en N)
theorem E30_ok (N : Nat) : EnvOk (E30 N) ents := Env.add_ok (E29_ok N) (impl_tableOf_f.en_ok N (E29_ok N))
def impl_cyclic.kp : Keeps := ⟨[], [], []⟩
def impl_cyclic.bd : Code := bodyOf Try.f56
def impl_cyclic.fin {ρ : Type} (N : Nat) (K : AV → Heap → Option ρ) : XE → St → Option ρ := finK (E30 N) impl_cyclic.kp.fins Try.f56 [] K
theorem impl_cyclic.eq {ρ : Type} (N : Nat) (K : AV → Heap → Option ρ) (nv0 : Int) :
    xbody (E30 N) ents impl_cyclic.kp N Try.f56 impl_cyclic.bd [.int .i64 (nv0)] [] K = (impl_cyclic N (fun d0 d1 d2 d3 d4 => K (.slice true 0 0 d0 .whole 1) [⟨true, .hdr 1 0 d1 d2 d3 none⟩, ⟨true, .flat 0 (.ints .i64 d4)⟩]) nv0) := by kernel_rfl
def impl_cyclic.en (N : Nat) (ρ : Type) : List AV → Heap → (AV → Heap → Option ρ) → Option ρ
  | [.int .i64 (nv0)], [], K => (impl_cyclic N (fun d0 d1 d2 d3 d4 => K (.slice true 0 0 d0 .whole 1) [⟨true, .hdr 1 0 d1 d2 d3 none⟩, ⟨true, .flat 0 (.ints .i64 d4)⟩]) nv0)
  | _, _, _ => none
theorem impl_cyclic.en_ok (N : Nat) (hE : EnvOk (E30 N) ents) (ρ : Type) (args : List AV) (sh : Heap) (K : AV → Heap → Option ρ) (r : ρ) (h : impl_cyclic.en N ρ args sh K = some r) : ∃ v sh', K v sh' = some r ∧ FnOk (E30 N).P 56 args sh v sh' := by
  unfold impl_cyclic.en at h
  split at h
  · exact fn_ok hE (kp := impl_cyclic.kp) (N := N) Try.func56 (c := impl_cyclic.bd) (by kernel_rfl) ((impl_cyclic.eq N _ _).trans h)
  · cases h
def E31 (N : Nat) : Env := (E30 N).add 56 (impl_cyclic.en N)
theorem E31_ok (N : Nat) : EnvOk (E31 N) ents := Env.add_ok (E30_ok N) (impl_cyclic.en_ok N (E30_ok N))
def impl_CyclicTable.kp : Keeps := ⟨[], [], [(.slot 2, .unkH .i64)]⟩
def impl_CyclicTable.bd : Code := bodyOf Try.f29
def impl_CyclicTable.fin {ρ : Type} (N : Nat) (K : AV → Heap → Option ρ) : XE → St → Option ρ := finK (E31 N) impl_CyclicTable.kp.fins Try.f29 [] K
theorem impl_CyclicTable.eqb {ρ : Type} (N : Nat) (K : AV → Heap → Option ρ) (nv0 : Int) :
    xbody (E31 N) ents impl_CyclicTable.kp N Try.f29 impl_CyclicTable.bd [.int .i64 (nv0)] [] K = (impl_CyclicTable.bdy N (fun d0 d1 d2 d3 d4 d5 => K (.tup [.slice false 0 0 d0 .unk 1, .int .i64 (d1)]) [⟨true, .hdr 1 0 d2 d3 d4 none⟩, ⟨true, .flat 0 (.ints .i64 d5)⟩]) nv0) := by kernel_rfl
theorem impl_CyclicTable.eq {ρ : Type} (N : Nat) (K : AV → Heap → Option ρ) (nv0 : Int) :
    xbody (E31 N) ents impl_CyclicTable.kp N Try.f29 impl_CyclicTable.bd [.int .i64 (nv0)] [] K = (impl_CyclicTable N (fun d0 d1 d2 d3 d4 d5 => K (.tup [.slice false 0 0 d0 .unk 1, .int .i64 (d1)]) [⟨true, .hdr 1 0 d2 d3 d4 none⟩, ⟨true, .flat 0 (.ints .i64 d5)⟩]) nv0) :=
  (impl_CyclicTable.eqb N K nv0).trans (impl_CyclicTable.opq _ _ _).symm
def impl_CyclicTable.en (N : Nat) (ρ : Type) : List AV → Heap → (AV → Heap → Option ρ) → Option ρ
  | [.int .i64 (nv0)], [], K => (impl_CyclicTable N (fun d0 d1 d2 d3 d4 d5 => K (.tup [.slice false 0 0 d0 .unk 1, .int .i64 (d1)]) [⟨true, .hdr 1 0 d2 d3 d4 none⟩, ⟨true, .flat 0 (.ints .i64 d5)⟩]) nv0)
  | _, _, _ => none
theorem impl_CyclicTable.en_ok (N : Nat) (hE : EnvOk (E31 N) ents) (ρ : Type) (args : List AV) (sh : Heap) (K : AV → Heap → Option ρ) (r : ρ) (h : impl_CyclicTable.en N ρ args sh K = some r) : ∃ v sh', K v sh' = some r ∧ FnOk (E31 N).P 29 args sh v sh' := by
  unfold impl_CyclicTable.en at h
  split at h
  · exact fn_ok hE (kp := impl_CyclicTable.kp) (N := N) Try.func29 (c := impl_CyclicTable.bd) (by kernel_rfl) ((impl_CyclicTable.eq N _ _).trans h)
  · cases h
def E32 (N : Nat) : Env := (E31 N).add 29 (impl_CyclicTable.en N)
theorem E32_ok (N : Nat) : EnvOk (E32 N) ents := Env.add_ok (E31_ok N) (impl_CyclicTable.en_ok N (E31_ok N))
def laws_likeInts_susu.kp : Keeps := ⟨[(0, [0, 1, 5], [], [])], [(0, [], [], [])], []⟩
def laws_likeInts_susu.bd : Code := bodyOf Try.f38
def laws_likeInts_susu.fin {ρ : Type} (N : Nat) (K : AV → Heap → Option ρ) (gv2 : Nat) (gv3 : Nat → Int) (gv4 : Nat) (gv5 : Nat → Int) : XE → St → Option ρ := finK (E32 N) laws_likeInts_susu.kp.fins Try.f38 [⟨false, .flat gv2 (.ints .i64 gv3)⟩, ⟨false, .flat gv4 (.ints .i64 gv5)⟩] K
def laws_likeInts_susu.k0 {ρ : Type} (N : Nat) (K : AV → Heap → Option ρ) (gv2 : Nat) (gv3 : Nat → Int) (gv4 : Nat) (gv5 : Nat → Int) : XE → St → Option ρ := (blockK laws_likeInts_susu.kp 2 0 (seqK (xcode (E32 N) ents laws_likeInts_susu.kp 2 N (cB (cB (cB laws_likeInts_susu.bd))) 0) (laws_likeInts_susu.fin N K gv2 gv3 gv4 gv5)))
theorem laws_likeInts_susu.k0_mix {ρ : Type} (N : Nat) (K : AV → Heap → Option ρ) (gv2 : Nat) (gv3 : Nat → Int) (gv4 : Nat) (gv5 : Nat → Int) : mixK (laws_likeInts_susu.fin N K gv2 gv3 gv4 gv5 .ret) (laws_likeInts_susu.k0 N K gv2 gv3 gv4 gv5) = (laws_likeInts_susu.k0 N K gv2 gv3 gv4 gv5) := by
  funext e s; cases e <;> kernel_rfl
def laws_likeInts_susu.st0 (av0 : Nat) (bv1 : Nat) (gv2 : Nat) (gv3 : Nat → Int) (gv4 : Nat) (gv5 : Nat → Int) (i6 : Int) : St := ⟨sl 26 [(0, .slice false 0 0 av0 .unk 1), (1, .slice false 1 0 bv1 .unk 1), (5, .int .i64 (i6))], [⟨false, .flat gv2 (.ints .i64 gv3)⟩, ⟨false, .flat gv4 (.ints .i64 gv5)⟩]⟩
def laws_likeInts_susu.sx0_0 (gv2 : Nat) (gv3 : Nat → Int) (gv4 : Nat) (gv5 : Nat → Int) : St := ⟨sl 26 [], [⟨false, .flat gv2 (.ints .i64 gv3)⟩, ⟨false, .flat gv4 (.ints .i64 gv5)⟩]⟩
theorem laws_likeInts_susu.b0_gen {ρ : Type} (N : Nat) (K : AV → Heap → Option ρ) (L0 : St → Option ρ) (kv : XE → St → Option ρ) (av0 : Nat) (bv1 : Nat) (gv2 : Nat) (gv3 : Nat → Int) (gv4 : Nat) (gv5 : Nat → Int) (i6 : Int) :
    xcode (E32 N) ents laws_likeInts_susu.kp 2 N (cL (cK (cB (cA (cB (cB laws_likeInts_susu.bd)))))) 0 (laws_likeInts_susu.st0 av0 bv1 gv2 gv3 gv4 gv5 i6) (roundK laws_likeInts_susu.kp 2 0 L0 (mixK (laws_likeInts_susu.fin N K gv2 gv3 gv4 gv5 .ret) kv)) = (laws_likeInts_susu.b0 N (fun d0 => K (.bool (d0)) [⟨false, .flat gv2 (.ints .i64 gv3)⟩, ⟨false, .flat gv4 (.ints .i64 gv5)⟩]) (fun i6 => L0 (laws_likeInts_susu.st0 av0 bv1 gv2 gv3 gv4 gv5 i6)) (kv (.exit 0) (laws_likeInts_susu.sx0_0 gv2 gv3 gv4 gv5)) av0 bv1 gv3 gv5 i6) := by kernel_rfl
theorem laws_likeInts_susu.b0_eq {ρ : Type} (N : Nat) (K : AV → Heap → Option ρ) (L0 : St → Option ρ) (av0 : Nat) (bv1 : Nat) (gv2 : Nat) (gv3 : Nat → Int) (gv4 : Nat) (gv5 : Nat → Int) (i6 : Int) :
    xcode (E32 N) ents laws_likeInts_susu.kp 2 N (cL (cK (cB (cA (cB (cB laws_likeInts_susu.bd)))))) 0 (laws_likeInts_susu.st0 av0 bv1 gv2 gv3 gv4 gv5 i6) (roundK laws_likeInts_susu.kp 2 0 L0 (laws_likeInts_susu.k0 N K gv2 gv3 gv4 gv5)) = (laws_likeInts_susu.b0 N (fun d0 => K (.bool (d0)) [⟨false, .flat gv2 (.ints .i64 gv3)⟩, ⟨false, .flat gv4 (.ints .i64 gv5)⟩]) (fun i6 => L0 (laws_likeInts_susu.st0 av0 bv1 gv2 gv3 gv4 gv5 i6)) ((laws_likeInts_susu.k0 N K gv2 gv3 gv4 gv5) (.exit 0) (laws_likeInts_susu.sx0_0 gv2 gv3 gv4 gv5)) av0 bv1 gv3 gv5 i6) := by
  have h := laws_likeInts_susu.b0_gen N K L0 (laws_likeInts_susu.k0 N K gv2 gv3 gv4 gv5) av0 bv1 gv2 gv3 gv4 gv5 i6
  rw [laws_likeInts_susu.k0_mix] at h
  exact h
theorem laws_likeInts_susu.a0_0_eq {ρ : Type} (N : Nat) (K : AV → Heap → Option ρ) (gv2 : Nat) (gv3 : Nat → Int) (gv4 : Nat) (gv5 : Nat → Int) :
    (laws_likeInts_susu.k0 N K gv2 gv3 gv4 gv5) (.exit 0) (laws_likeInts_susu.sx0_0 gv2 gv3 gv4 gv5) = (laws_likeInts_susu.a0_0 N (fun d0 => K (.bool (d0)) [⟨false, .flat gv2 (.ints .i64 gv3)⟩, ⟨false, .flat gv4 (.ints .i64 gv5)⟩])) := by kernel_rfl
theorem laws_likeInts_susu.l0_eq {ρ : Type} (N : Nat) (K : AV → Heap → Option ρ) (av0 : Nat) (bv1 : Nat) (gv2 : Nat) (gv3 : Nat → Int) (gv4 : Nat) (gv5 : Nat → Int) :
    ∀ (m : Nat) (i6 : Int), xloop (xcode (E32 N) ents laws_likeInts_susu.kp 2 N (cL (cK (cB (cA (cB (cB laws_likeInts_susu.bd)))))) 0) laws_likeInts_susu.kp 2 0 m (laws_likeInts_susu.st0 av0 bv1 gv2 gv3 gv4 gv5 i6) (laws_likeInts_susu.k0 N K gv2 gv3 gv4 gv5) = (laws_likeInts_susu.l0 N (fun d0 => K (.bool (d0)) [⟨false, .flat gv2 (.ints .i64 gv3)⟩, ⟨false, .flat gv4 (.ints .i64 gv5)⟩]) av0 bv1 gv3 gv5 ((laws_likeInts_susu.k0 N K gv2 gv3 gv4 gv5) (.exit 0) (laws_likeInts_susu.sx0_0 gv2 gv3 gv4 gv5)) m i6) := by
  intro m
  induction m with
  | zero => intros; rfl
  | succ m ih =>
    intro i6
    refine (laws_likeInts_susu.b0_eq N K (fun s => xloop (xcode (E32 N) ents laws_likeInts_susu.kp 2 N (cL (cK (cB (cA (cB (cB laws_likeInts_susu.bd)))))) 0) laws_likeInts_susu.kp 2 0 m s (laws_likeInts_susu.k0 N K gv2 gv3 gv4 gv5)) av0 bv1 gv2 gv3 gv4 gv5 i6).trans ?_
    simp only [ih]
    kernel_rfl
theorem laws_likeInts_susu.s_eq {ρ : Type} (N : Nat) (K : AV → Heap → Option ρ) (av0 : Nat) (bv1 : Nat) (gv2 : Nat) (gv3 : Nat → Int) (gv4 : Nat) (gv5 : Nat → Int) :
    xbody (E32 N) ents laws_likeInts_susu.kp N Try.f38 laws_likeInts_susu.bd [.slice false 0 0 av0 .unk 1, .slice false 1 0 bv1 .unk 1] [⟨false, .flat gv2 (.ints .i64 gv3)⟩, ⟨false, .flat gv4 (.ints .i64 gv5)⟩] K = (laws_likeInts_susu.s N (fun d0 => K (.bool (d0)) [⟨false, .flat gv2 (.ints .i64 gv3)⟩, ⟨false, .flat gv4 (.ints .i64 gv5)⟩]) (fun i6 => xloop (xcode (E32 N) ents laws_likeInts_susu.kp 2 N (cL (cK (cB (cA (cB (cB laws_likeInts_susu.bd)))))) 0) laws_likeInts_susu.kp 2 0 N (laws_likeInts_susu.st0 av0 bv1 gv2 gv3 gv4 gv5 i6) (laws_likeInts_susu.k0 N K gv2 gv3 gv4 gv5)) av0 bv1) := by kernel_rfl
theorem laws_likeInts_susu.eqb {ρ : Type} (N : Nat) (K : AV → Heap → Option ρ) (av0 : Nat) (bv1 : Nat) (gv2 : Nat) (gv3 : Nat → Int) (gv4 : Nat) (gv5 : Nat → Int) :
    xbody (E32 N) ents laws_likeInts_susu.kp N Try.f38 laws_likeInts_susu.bd [.slice false 0 0 av0 .unk 1, .slice false 1 0 bv1 .unk 1] [⟨false, .flat gv2 (.ints .i64 gv3)⟩, ⟨false, .flat gv4 (.ints .i64 gv5)⟩] K = (laws_likeInts_susu.bdy N (fun d0 => K (.bool (d0)) [⟨false, .flat gv2 (.ints .i64 gv3)⟩, ⟨false, .flat gv4 (.ints .i64 gv5)⟩]) av0 bv1 gv2 gv3 gv4 gv5) := by
  refine (laws_likeInts_susu.s_eq N K av0 bv1 gv2 gv3 gv4 gv5).trans ?_
  simp only [laws_likeInts_susu.l0_eq, laws_likeInts_susu.a0_0_eq]
  kernel_rfl
theorem laws_likeInts_susu.eq {ρ : Type} (N : Nat) (K : AV → Heap → Option ρ) (av0 : Nat) (bv1 : Nat) (gv2 : Nat) (gv3 : Nat → Int) (gv4 : Nat) (gv5 : Nat → Int) :
    xbody (E32 N) ents laws_likeInts_susu.kp N Try.f38 laws_likeInts_susu.bd [.slice false 0 0 av0 .unk 1, .slice false 1 0 bv1 .unk 1] [⟨false, .flat gv2 (.ints .i64 gv3)⟩, ⟨false, .flat gv4 (.ints .i64 gv5)⟩] K = (laws_likeInts_susu N (fun d0 => K (.bool (d0)) [⟨false, .flat gv2 (.ints .i64 gv3)⟩, ⟨false, .flat gv4 (.ints .i64 gv5)⟩]) av0 bv1 gv2 gv3 gv4 gv5) :=
  (laws_likeInts_susu.eqb N K av0 bv1 gv2 gv3 gv4 gv5).trans (laws_likeInts_susu.opq _ _ _ _ _ _ _ _).symm
def laws_likeInts_susu.en (N : Nat) (ρ : Type) : List AV → Heap → (AV → Heap → Option ρ) → Option ρ
  | [.slice false 0 0 av0 .unk 1, .slice false 1 0 bv1 .unk 1], [⟨false, .flat gv2 (.ints .i64 gv3)⟩, ⟨false, .flat gv4 (.ints .i64 gv5)⟩], K => (laws_likeInts_susu N (fun d0 => K (.bool (d0)) [⟨false, .flat gv2 (.ints .i64 gv3)⟩, ⟨false, .flat gv4 (.ints .i64 gv5)⟩]) av0 bv1 gv2 gv3 gv4 gv5)
  | _, _, _ => none
theorem laws_likeInts_susu.en_ok (N : Nat) (hE : EnvOk (E32 N) ents) (ρ : Type) (args : List AV) (sh : Heap) (K : AV → Heap → Option ρ) (r : ρ) (h : laws_likeInts_susu.en N ρ args sh K = some r) : ∃ v sh', K v sh' = some r ∧ FnOk (E32 N).P 38 args sh v sh' := by
  unfold laws_likeInts_susu.en at h
  split at h
  · exact fn_ok hE (kp := laws_likeInts_susu.kp) (N := N) Try.func38 (c := laws_likeInts_susu.bd) (by kernel_rfl) ((laws_likeInts_susu.eq N _ _ _ _ _ _ _).trans h)
  · cases h
def E33 (N : Nat) : Env := (E32 N).add 38 (laws_likeInts_susu.en N)
theorem E33_ok (N : Nat) : EnvOk (E33 N) ents := Env.add_ok (E32_ok N) (laws_likeInts_susu.en_ok N (E32_ok N))
def laws_table9_suhsuh.kp : Keeps := ⟨[(0, [0, 1, 5], [], [])], [(0, [], [], [])], []⟩
def laws_table9_suhsuh.bd : Code := bodyOf Try.f30
def laws_table9_suhsuh.fin {ρ : Type} (N : Nat) (K : AV → Heap → Option ρ) (gv2 : Nat) (gv3 : Nat) (gv4 : Nat → Nat) (gv5 : Nat → Nat) (gv6 : Nat) (gv7 : Nat) (gv8 : Nat → Nat) (gv9 : Nat → Nat) (gv10 : Nat → Int) (gv11 : Nat → Int) : XE → St → Option ρ := finK (E33 N) laws_table9_suhsuh.kp.fins Try.f30 [⟨false, .hdr 2 gv2 gv3 gv4 gv5 none⟩, ⟨false, .hdr 3 gv6 gv7 gv8 gv9 none⟩, ⟨false, .flat 0 (.ints .i64 gv10)⟩, ⟨false, .flat 0 (.ints .i64 gv11)⟩] K
def laws_table9_suhsuh.k0 {ρ : Type} (N : Nat) (K : AV → Heap → Option ρ) (gv2 : Nat) (gv3 : Nat) (gv4 : Nat → Nat) (gv5 : Nat → Nat) (gv6 : Nat) (gv7 : Nat) (gv8 : Nat → Nat) (gv9 : Nat → Nat) (gv10 : Nat → Int) (gv11 : Nat → Int) : XE → St → Option ρ := (blockK laws_table9_suhsuh.kp 4 0 (seqK (xcode (E33 N) ents laws_table9_suhsuh.kp 4 N (cB (cB (cB laws_table9_suhsuh.bd))) 0) (laws_table9_suhsuh.fin N K gv2 gv3 gv4 gv5 gv6 gv7 gv8 gv9 gv10 gv11)))
theorem laws_table9_suhsuh.k0_mix {ρ : Type} (N : Nat) (K : AV → Heap → Option ρ) (gv2 : Nat) (gv3 : Nat) (gv4 : Nat → Nat) (gv5 : Nat → Nat) (gv6 : Nat) (gv7 : Nat) (gv8 : Nat → Nat) (gv9 : Nat → Nat) (gv10 : Nat → Int) (gv11 : Nat → Int) : mixK (laws_table9_suhsuh.fin N K gv2 gv3 gv4 gv5 gv6 gv7 gv8 gv9 gv10 gv11 .ret) (laws_table9_suhsuh.k0 N K gv2 gv3 gv4 gv5 gv6 gv7 gv8 gv9 gv10 gv11) = (laws_table9_suhsuh.k0 N K gv2 gv3 gv4 gv5 gv6 gv7 gv8 gv9 gv10 gv11) := by
  funext e s; cases e <;> kernel_rfl
def laws_table9_suhsuh.st0 (av0 : Nat) (bv1 : Nat) (gv2 : Nat) (gv3 : Nat) (gv4 : Nat → Nat) (gv5 : Nat → Nat) (gv6 : Nat) (gv7 : Nat) (gv8 : Nat → Nat) (gv9 : Nat → Nat) (gv10 : Nat → Int) (gv11 : Nat → Int) (i12 : Int) : St := ⟨sl 27 [(0, .slice false 0 0 av0 .unk 1), (1, .slice false 1 0 bv1 .unk 1), (5, .int .i64 (i12))], [⟨false, .hdr 2 gv2 gv3 gv4 gv5 none⟩, ⟨false, .hdr 3 gv6 gv7 gv8 gv9 none⟩, ⟨false, .flat 0 (.ints .i64 gv10)⟩, ⟨false, .flat 0 (.ints .i64 gv11)⟩]⟩
def laws_table9_suhsuh.sx0_0 (gv2 : Nat) (gv3 : Nat) (gv4 : Nat → Nat) (gv5 : Nat → Nat) (gv6 : Nat) (gv7 : Nat) (gv8 : Nat → Nat) (gv9 : Nat → Nat) (gv10 : Nat → Int) (gv11 : Nat → Int) : St := ⟨sl 27 [], [⟨false, .hdr 2 gv2 gv3 gv4 gv5 none⟩, ⟨false, .hdr 3 gv6 gv7 gv8 gv9 none⟩, ⟨false, .flat 0 (.ints .i64 gv10)⟩, ⟨false, .flat 0 (.ints .i64 gv11)⟩]⟩
theorem laws_table9_suhsuh.b0_gen {ρ : Type} (N : Nat) (K : AV → Heap → Option ρ) (L0 : St → Option ρ) (kv : XE → St → Option ρ) (av0 : Nat) (bv1 : Nat) (gv2 : Nat) (gv3 : Nat) (gv4 : Nat → Nat) (gv5 : Nat → Nat) (gv6 : Nat) (gv7 : Nat) (gv8 : Nat → Nat) (gv9 : Nat → Nat) (gv10 : Nat → Int) (gv11 : Nat → Int) (i12 : Int) :
    xcode (E33 N) ents laws_table9_suhsuh.kp 4 N (cL (cK (cB (cA (cB (cB laws_table9_suhsuh.bd)))))) 0 (laws_table9_suhsuh.st0 av0 bv1 gv2 gv3 gv4 gv5 gv6 gv7 gv8 gv9 gv10 gv11 i12) (roundK laws_table9_suhsuh.kp 4 0 L0 (mixK (laws_table9_suhsuh.fin N K gv2 gv3 gv4 gv5 gv6 gv7 gv8 gv9 gv10 gv11 .ret) kv)) = (laws_table9_suhsuh.b0 N (fun d0 => K (.bool (d0)) [⟨false, .hdr 2 gv2 gv3 gv4 gv5 none⟩, ⟨false, .hdr 3 gv6 gv7 gv8 gv9 none⟩, ⟨false, .flat 0 (.ints .i64 gv10)⟩, ⟨false, .flat 0 (.ints .i64 gv11)⟩]) (fun i12 => L0 (laws_table9_suhsuh.st0 av0 bv1 gv2 gv3 gv4 gv5 gv6 gv7 gv8 gv9 gv10 gv11 i12)) (kv (.exit 0) (laws_table9_suhsuh.sx0_0 gv2 gv3 gv4 gv5 gv6 gv7 gv8 gv9 gv10 gv11)) av0 bv1 gv4 gv5 gv8 gv9 gv10 gv11 i12) := by kernel_rfl
theorem laws_table9_suhsuh.b0_eq {ρ : Type} (N : Nat) (K : AV → Heap → Option ρ) (L0 : St → Option ρ) (av0 : Nat) (bv1 : Nat) (gv2 : Nat) (gv3 : Nat) (gv4 : Nat → Nat) (gv5 : Nat → Nat) (gv6 : Nat) (gv7 : Nat) (gv8 : Nat → Nat) (gv9 : Nat → Nat) (gv10 : Nat → Int) (gv11 : Nat → Int) (i12 : Int) :
    xcode (E33 N) ents laws_table9_suhsuh.kp 4 N (cL (cK (cB (cA (cB (cB laws_table9_suhsuh.bd)))))) 0 (laws_table9_suhsuh.st0 av0 bv1 gv2 gv3 gv4 gv5 gv6 gv7 gv8 gv9 gv10 gv11 i12) (roundK laws_table9_suhsuh.kp 4 0 L0 (laws_table9_suhsuh.k0 N K gv2 gv3 gv4 gv5 gv6 gv7 gv8 gv9 gv10 gv11)) = (laws_table9_suhsuh.b0 N (fun d0 => K (.bool (d0)) [⟨false, .hdr 2 gv2 gv3 gv4 gv5 none⟩, ⟨false, .hdr 3 gv6 gv7 gv8 gv9 none⟩, ⟨false, .flat 0 (.ints .i64 gv10)⟩, ⟨false, .flat 0 (.ints .i64 gv11)⟩]) (fun i12 => L0 (laws_table9_suhsuh.st0 av0 bv1 gv2 gv3 gv4 gv5 gv6 gv7 gv8 gv9 gv10 gv11 i12)) ((laws_table9_suhsuh.k0 N K gv2 gv3 gv4 gv5 gv6 gv7 gv8 gv9 gv10 gv11) (.exit 0) (laws_table9_suhsuh.sx0_0 gv2 gv3 gv4 gv5 gv6 gv7 gv8 gv9 gv10 gv11)) av0 bv1 gv4 gv5 gv8 gv9 gv10 gv11 i12) := by
  have h := laws_table9_suhsuh.b0_gen N K L0 (laws_table9_suhsuh.k0 N K gv2 gv3 gv4 gv5 gv6 gv7 gv8 gv9 gv10 gv11) av0 bv1 gv2 gv3 gv4 gv5 gv6 gv7 gv8 gv9 gv10 gv11 i12
  rw [laws_table9_suhsuh.k0_mix] at h
  exact h
theorem laws_table9_suhsuh.a0_0_eq {ρ : Type} (N : Nat) (K : AV → Heap → Option ρ) (gv2 : Nat) (gv3 : Nat) (gv4 : Nat → Nat) (gv5 : Nat → Nat) (gv6 : Nat) (gv7 : Nat) (gv8 : Nat → Nat) (gv9 : Nat → Nat) (gv10 : Nat → Int) (gv11 : Nat → Int) :
    (laws_table9_suhsuh.k0 N K gv2 gv3 gv4 gv5 gv6 gv7 gv8 gv9 gv10 gv11) (.exit 0) (laws_table9_suhsuh.sx0_0 gv2 gv3 gv4 gv5 gv6 gv7 gv8 gv9 gv10 gv11) = (laws_table9_suhsuh.a0_0 N (fun d0 => K (.bool (d0)) [⟨false, .hdr 2 gv2 gv3 gv4 gv5 none⟩, ⟨false, .hdr 3 gv6 gv7 gv8 gv9 none⟩, ⟨false, .flat 0 (.ints .i64 gv10)⟩, ⟨false, .flat 0 (.ints .i64 gv11)⟩])) := by kernel_rfl
theorem laws_table9_suhsuh.l0_eq {ρ : Type} (N : Nat) (K : AV → Heap → Option ρ) (av0 : Nat) (bv1 : Nat) (gv2 : Nat) (gv3 : Nat) (gv4 : Nat → Nat) (gv5 : Nat → Nat) (gv6 : Nat) (gv7 : Nat) (gv8 : Nat → Nat) (gv9 : Nat → Nat) (gv10 : Nat → Int) (gv11 : Nat → Int) :
    ∀ (m : Nat) (i12 : Int), xloop (xcode (E33 N) ents laws_table9_suhsuh.kp 4 N (cL (cK (cB (cA (cB (cB laws_table9_suhsuh.bd)))))) 0) laws_table9_suhsuh.kp 4 0 m (laws_table9_suhsuh.st0 av0 bv1 gv2 gv3 gv4 gv5 gv6 gv7 gv8 gv9 gv10 gv11 i12) (laws_table9_suhsuh.k0 N K gv2 gv3 gv4 gv5 gv6 gv7 gv8 gv9 gv10 gv11) = (laws_table9_suhsuh.l0 N (fun d0 => K (.bool (d0)) [⟨false, .hdr 2 gv2 gv3 gv4 gv5 none⟩, ⟨false, .hdr 3 gv6 gv7 gv8 gv9 none⟩, ⟨false, .flat 0 (.ints .i64 gv10)⟩, ⟨false, .flat 0 (.ints .i64 gv11)⟩]) av0 bv1 gv4 gv5 gv8 gv9 gv10 gv11 ((laws_table9_suhsuh.k0 N K gv2 gv3 gv4 gv5 gv6 gv7 gv8 gv9 gv10 gv11) (.exit 0) (laws_table9_suhsuh.sx0_0 gv2 gv3 gv4 gv5 gv6 gv7 gv8 gv9 gv10 gv11)) m i12) := by
  intro m
  induction m with
  | zero => intros; rfl
  | succ m ih =>
    intro i12
    refine (laws_table9_suhsuh.b0_eq N K (fun s => xloop (xcode (E33 N) ents laws_table9_suhsuh.kp 4 N (cL (cK (cB (cA (cB (cB laws_table9_suhsuh.bd)))))) 0) laws_table9_suhsuh.kp 4 0 m s (laws_table9_suhsuh.k0 N K gv2 gv3 gv4 gv5 gv6 gv7 gv8 gv9 gv10 gv11)) av0 bv1 gv2 gv3 gv4 gv5 gv6 gv7 gv8 gv9 gv10 gv11 i12).trans ?_
    simp only [ih]
    kernel_rfl
theorem laws_table9_suhsuh.s_eq {ρ : Type} (N : Nat) (K : AV → Heap → Option ρ) (av0 : Nat) (bv1 : Nat) (gv2 : Nat) (gv3 : Nat) (gv4 : Nat → Nat) (gv5 : Nat → Nat) (gv6 : Nat) (gv7 : Nat) (gv8 : Nat → Nat) (gv9 : Nat → Nat) (gv10 : Nat → Int) (gv11 : Nat → Int) :
    xbody (E33 N) ents laws_table9_suhsuh.kp N Try.f30 laws_table9_suhsuh.bd [.slice false 0 0 av0 .unk 1, .slice false 1 0 bv1 .unk 1] [⟨false, .hdr 2 gv2 gv3 gv4 gv5 none⟩, ⟨false, .hdr 3 gv6 gv7 gv8 gv9 none⟩, ⟨false, .flat 0 (.ints .i64 gv10)⟩, ⟨false, .flat 0 (.ints .i64 gv11)⟩] K = (laws_table9_suhsuh.s N (fun d0 => K (.bool (d0)) [⟨false, .hdr 2 gv2 gv3 gv4 gv5 none⟩, ⟨false, .hdr 3 gv6 gv7 gv8 gv9 none⟩, ⟨false, .flat 0 (.ints .i64 gv10)⟩, ⟨false, .flat 0 (.ints .i64 gv11)⟩]) (fun i12 => xloop (xcode (E33 N) ents laws_table9_suhsuh.kp 4 N (cL (cK (cB (cA (cB (cB laws_table9_suhsuh.bd)))))) 0) laws_table9_suhsuh.kp 4 0 N (laws_table9_suhsuh.st0 av0 bv1 gv2 gv3 gv4 gv5 gv6 gv7 gv8 gv9 gv10 gv11 i12) (laws_table9_suhsuh.k0 N K gv2 gv3 gv4 gv5 gv6 gv7 gv8 gv9 gv10 gv11)) av0 bv1) := by kernel_rfl
theorem laws_table9_suhsuh.eqb {ρ : Type} (N : Nat) (K : AV → Heap → Option ρ) (av0 : Nat) (bv1 : Nat) (gv2 : Nat) (gv3 : Nat) (gv4 : Nat → Nat) (gv5 : Nat → Nat) (gv6 : Nat) (gv7 : Nat) (gv8 : Nat → Nat) (gv9 : Nat → Nat) (gv10 : Nat → Int) (gv11 : Nat → Int) :
    xbody (E33 N) ents laws_table9_suhsuh.kp N Try.f30 laws_table9_suhsuh.bd [.slice false 0 0 av0 .unk 1, .slice false 1 0 bv1 .unk 1] [⟨false, .hdr 2 gv2 gv3 gv4 gv5 none⟩, ⟨false, .hdr 3 gv6 gv7 gv8 gv9 none⟩, ⟨false, .flat 0 (.ints .i64 gv10)⟩, ⟨false, .flat 0 (.ints .i64 gv11)⟩] K = (laws_table9_suhsuh.bdy N (fun d0 => K (.bool (d0)) [⟨false, .hdr 2 gv2 gv3 gv4 gv5 none⟩, ⟨false, .hdr 3 gv6 gv7 gv8 gv9 none⟩, ⟨false, .flat 0 (.ints .i64 gv10)⟩, ⟨false, .flat 0 (.ints .i64 gv11)⟩]) av0 bv1 gv2 gv3 gv4 gv5 gv6 gv7 gv8 gv9 gv10 gv11) := by
  refine (laws_table9_suhsuh.s_eq N K av0 bv1 gv2 gv3 gv4 gv5 gv6 gv7 gv8 gv9 gv10 gv11).trans ?_
  simp only [laws_table9_suhsuh.l0_eq, laws_table9_suhsuh.a0_0_eq]
  kernel_rfl
theorem laws_table9_suhsuh.eq {ρ : Type} (N : Nat) (K : AV → Heap → Option ρ) (av0 : Nat) (bv1 : Nat) (gv2 : Nat) (gv3 : Nat) (gv4 : Nat → Nat) (gv5 : Nat → Nat) (gv6 : Nat) (gv7 : Nat) (gv8 : Nat → Nat) (gv9 : Nat → Nat) (gv10 : Nat → Int) (gv11 : Nat → Int) :
    xbody (E33 N) ents laws_table9_suhsuh.kp N Try.f30 laws_table9_suhsuh.bd [.slice false 0 0 av0 .unk 1, .slice false 1 0 bv1 .unk 1] [⟨false, .hdr 2 gv2 gv3 gv4 gv5 none⟩, ⟨false, .hdr 3 gv6 gv7 gv8 gv9 none⟩, ⟨false, .flat 0 (.ints .i64 gv10)⟩, ⟨false, .flat 0 (.ints .i64 gv11)⟩] K = (laws_table9_suhsuh N (fun d0 => K (.bool (d0)) [⟨false, .hdr 2 gv2 gv3 gv4 gv5 none⟩, ⟨false, .hdr 3 gv6 gv7 gv8 gv9 none⟩, ⟨false, .flat 0 (.ints .i64 gv10)⟩, ⟨false, .flat 0 (.ints .i64 gv11)⟩]) av0 bv1 gv2 gv3 gv4 gv5 gv6 gv7 gv8 gv9 gv10 gv11) :=
  (laws_table9_suhsuh.eqb N K av0 bv1 gv2 gv3 gv4 gv5 gv6 gv7 gv8 gv9 gv10 gv11).trans (laws_table9_suhsuh.opq _ _ _ _ _ _ _ _ _ _ _ _ _ _).symm
def laws_table9_suhsuh_v2.kp : Keeps := ⟨[(0, [0, 1, 5], [], [])], [(0, [], [], [])], []⟩
def laws_table9_suhsuh_v2.bd : Code := bodyOf Try.f30
def laws_table9_suhsuh_v2.fin {ρ : Type} (N : Nat) (K : AV → Heap → Option ρ) (gv2 : Nat) (gv3 : Nat) (gv4 : Nat → Nat) (gv5 : Nat → Nat) (gv6 : Nat) (gv7 : Nat) (gv8 : Nat → Nat) (gv9 : Nat → Nat) (gv10 : Nat → Int) (gv11 : Nat → Int) : XE → St → Option ρ := finK (E33 N) laws_table9_suhsuh_v2.kp.fins Try.f30 [⟨false, .hdr 2 gv2 gv3 gv4 gv5 none⟩, ⟨false, .hdr 3 gv6 gv7 gv8 gv9 none⟩, ⟨false, .flat 0 (.ints .i64 gv10)⟩, ⟨false, .flat 0 (.ints .i64 gv11)⟩] K
def laws_table9_suhsuh_v2.k0 {ρ : Type} (N : Nat) (K : AV → Heap → Option ρ) (gv2 : Nat) (gv3 : Nat) (gv4 : Nat → Nat) (gv5 : Nat → Nat) (gv6 : Nat) (gv7 : Nat) (gv8 : Nat → Nat) (gv9 : Nat → Nat) (gv10 : Nat → Int) (gv11 : Nat → Int) : XE → St → Option ρ := (blockK laws_table9_suhsuh_v2.kp 4 0 (seqK (xcode (E33 N) ents laws_table9_suhsuh_v2.kp 4 N (cB (cB (cB laws_table9_suhsuh_v2.bd))) 0) (laws_table9_suhsuh_v2.fin N K gv2 gv3 gv4 gv5 gv6 gv7 gv8 gv9 gv10 gv11)))
theorem laws_table9_suhsuh_v2.k0_mix {ρ : Type} (N : Nat) (K : AV → Heap → Option ρ) (gv2 : Nat) (gv3 : Nat) (gv4 : Nat → Nat) (gv5 : Nat → Nat) (gv6 : Nat) (gv7 : Nat) (gv8 : Nat → Nat) (gv9 : Nat → Nat) (gv10 : Nat → Int) (gv11 : Nat → Int) : mixK (laws_table9_suhsuh_v2.fin N K gv2 gv3 gv4 gv5 gv6 gv7 gv8 gv9 gv10 gv11 .ret) (laws_table9_suhsuh_v2.k0 N K gv2 gv3 gv4 gv5 gv6 gv7 gv8 gv9 gv10 gv11) = (laws_table9_suhsuh_v2.k0 N K gv2 gv3 gv4 gv5 gv6 gv7 gv8 gv9 gv10 gv11) := by
  funext e s; cases e <;> kernel_rfl
def laws_table9_suhsuh_v2.st0 (av0 : Nat) (bv1 : Nat) (gv2 : Nat) (gv3 : Nat) (gv4 : Nat → Nat) (gv5 : Nat → Nat) (gv6 : Nat) (gv7 : Nat) (gv8 : Nat → Nat) (gv9 : Nat → Nat) (gv10 : Nat → Int) (gv11 : Nat → Int) (i12 : Int) : St := ⟨sl 27 [(0, .slice true 0 0 av0 .unk 1), (1, .slice true 1 0 bv1 .unk 1), (5, .int .i64 (i12))], [⟨false, .hdr 2 gv2 gv3 gv4 gv5 none⟩, ⟨false, .hdr 3 gv6 gv7 gv8 gv9 none⟩, ⟨false, .flat 0 (.ints .i64 gv10)⟩, ⟨false, .flat 0 (.ints .i64 gv11)⟩]⟩
def laws_table9_suhsuh_v2.sx0_0 (gv2 : Nat) (gv3 : Nat) (gv4 : Nat → Nat) (gv5 : Nat → Nat) (gv6 : Nat) (gv7 : Nat) (gv8 : Nat → Nat) (gv9 : Nat → Nat) (gv10 : Nat → Int) (gv11 : Nat → Int) : St := ⟨sl 27 [], [⟨false, .hdr 2 gv2 gv3 gv4 gv5 none⟩, ⟨false, .hdr 3 gv6 gv7 gv8 gv9 none⟩, ⟨false, .flat 0 (.ints .i64 gv10)⟩, ⟨false, .flat 0 (.ints .i64 gv11)⟩]⟩
theorem laws_table9_suhsuh_v2.b0_gen {ρ : Type} (N : Nat) (K : AV → Heap → Option ρ) (L0 : St → Option ρ) (kv : XE → St → Option ρ) (av0 : Nat) (bv1 : Nat) (gv2 : Nat) (gv3 : Nat) (gv4 : Nat → Nat) (gv5 : Nat → Nat) (gv6 : Nat) (gv7 : Nat) (gv8 : Nat → Nat) (gv9 : Nat → Nat) (gv10 : Nat → Int) (gv11 : Nat → Int) (i12 : Int) :
    xcode (E33 N) ents laws_table9_suhsuh_v2.kp 4 N (cL (cK (cB (cA (cB (cB laws_table9_suhsuh_v2.bd)))))) 0 (laws_table9_suhsuh_v2.st0 av0 bv1 gv2 gv3 gv4 gv5 gv6 gv7 gv8 gv9 gv10 gv11 i12) (roundK laws_table9_suhsuh_v2.kp 4 0 L0 (mixK (laws_table9_suhsuh_v2.fin N K gv2 gv3 gv4 gv5 gv6 gv7 gv8 gv9 gv10 gv11 .ret) kv)) = (laws_table9_suhsuh_v2.b0 N (fun d0 => K (.bool (d0)) [⟨false, .hdr 2 gv2 gv3 gv4 gv5 none⟩, ⟨false, .hdr 3 gv6 gv7 gv8 gv9 none⟩, ⟨false, .flat 0 (.ints .i64 gv10)⟩, ⟨false, .flat 0 (.ints .i64 gv11)⟩]) (fun i12 => L0 (laws_table9_suhsuh_v2.st0 av0 bv1 gv2 gv3 gv4 gv5 gv6 gv7 gv8 gv9 gv10 gv11 i12)) (kv (.exit 0) (laws_table9_suhsuh_v2.sx0_0 gv2 gv3 gv4 gv5 gv6 gv7 gv8 gv9 gv10 gv11)) av0 bv1 gv4 gv5 gv8 gv9 gv10 gv11 i12) := by kernel_rfl
theorem laws_table9_suhsuh_v2.b0_eq {ρ : Type} (N : Nat) (K : AV → Heap → Option ρ) (L0 : St → Option ρ) (av0 : Nat) (bv1 : Nat) (gv2 : Nat) (gv3 : Nat) (gv4 : Nat → Nat) (gv5 : Nat → Nat) (gv6 : Nat) (gv7 : Nat) (gv8 : Nat → Nat) (gv9 : Nat → Nat) (gv10 : Nat → Int) (gv11 : Nat → Int) (i12 : Int) :
    xcode (E33 N) ents laws_table9_suhsuh_v2.kp 4 N (cL (cK (cB (cA (cB (cB laws_table9_suhsuh_v2.bd)))))) 0 (laws_table9_suhsuh_v2.st0 av0 bv1 gv2 gv3 gv4 gv5 gv6 gv7 gv8 gv9 gv10 gv11 i12) (roundK laws_table9_suhsuh_v2.kp 4 0 L0 (laws_table9_suhsuh_v2.k0 N K gv2 gv3 gv4 gv5 gv6 gv7 gv8 gv9 gv10 gv11)) = (laws_table9_suhsuh_v2.b0 N (fun d0 => K (.bool (d0)) [⟨false, .hdr 2 gv2 gv3 gv4 gv5 none⟩, ⟨false, .hdr 3 gv6 gv7 gv8 gv9 none⟩, ⟨false, .flat 0 (.ints .i64 gv10)⟩, ⟨false, .flat 0 (.ints .i64 gv11)⟩]) (fun i12 => L0 (laws_table9_suhsuh_v2.st0 av0 bv1 gv2 gv3 gv4 gv5 gv6 gv7 gv8 gv9 gv10 gv11 i12)) ((laws_table9_suhsuh_v2.k0 N K gv2 gv3 gv4 gv5 gv6 gv7 gv8 gv9 gv10 gv11) (.exit 0) (laws_table9_suhsuh_v2.sx0_0 gv2 gv3 gv4 gv5 gv6 gv7 gv8 gv9 gv10 gv11)) av0 bv1 gv4 gv5 gv8 gv9 gv10 gv11 i12) := by
  have h := laws_table9_suhsuh_v2.b0_gen N K L0 (laws_table9_suhsuh_v2.k0 N K gv2 gv3 gv4 gv5 gv6 gv7 gv8 gv9 gv10 gv11) av0 bv1 gv2 gv3 gv4 gv5 gv6 gv7 gv8 gv9 gv10 gv11 i12
  rw [laws_table9_suhsuh_v2.k0_mix] at h
  exact h
theorem laws_table9_suhsuh_v2.a0_0_eq {ρ : Type} (N : Nat) (K : AV → Heap → Option ρ) (gv2 : Nat) (gv3 : Nat) (gv4 : Nat → Nat) (gv5 : Nat → Nat) (gv6 : Nat) (gv7 : Nat) (gv8 : Nat → Nat) (gv9 : Nat → Nat) (gv10 : Nat → Int) (gv11 : Nat → Int) :
    (laws_table9_suhsuh_v2.k0 N K gv2 gv3 gv4 gv5 gv6 gv7 gv8 gv9 gv10 gv11) (.exit 0) (laws_table9_suhsuh_v2.sx0_0 gv2 gv3 gv4 gv5 gv6 gv7 gv8 gv9 gv10 gv11) = (laws_table9_suhsuh_v2.a0_0 N (fun d0 => K (.bool (d0)) [⟨false, .hdr 2 gv2 gv3 gv4 gv5 none⟩, ⟨false, .hdr 3 gv6 gv7 gv8 gv9 none⟩, ⟨false, .flat 0 (.ints .i64 gv10)⟩, ⟨false, .flat 0 (.ints .i64 gv11)⟩])) := by kernel_rfl
theorem laws_table9_suhsuh_v2.l0_eq {ρ : Type} (N : Nat) (K : AV → Heap → Option ρ) (av0 : Nat) (bv1 : Nat) (gv2 : Nat) (gv3 : Nat) (gv4 : Nat → Nat) (gv5 : Nat → Nat) (gv6 : Nat) (gv7 : Nat) (gv8 : Nat → Nat) (gv9 : Nat → Nat) (gv10 : Nat → Int) (gv11 : Nat → Int) :
    ∀ (m : Nat) (i12 : Int), xloop (xcode (E33 N) ents laws_table9_suhsuh_v2.kp 4 N (cL (cK (cB (cA (cB (cB laws_table9_suhsuh_v2.bd)))))) 0) laws_table9_suhsuh_v2.kp 4 0 m (laws_table9_suhsuh_v2.st0 av0 bv1 gv2 gv3 gv4 gv5 gv6 gv7 gv8 gv9 gv10 gv11 i12) (laws_table9_suhsuh_v2.k0 N K gv2 gv3 gv4 gv5 gv6 gv7 gv8 gv9 gv10 gv11) = (laws_table9_suhsuh_v2.l0 N (fun d0 => K (.bool (d0)) [⟨false, .hdr 2 gv2 gv3 gv4 gv5 none⟩, ⟨false, .hdr 3 gv6 gv7 gv8 gv9 none⟩, ⟨false, .flat 0 (.ints .i64 gv10)⟩, ⟨false, .flat 0 (.ints .i64 gv11)⟩]) av0 bv1 gv4 gv5 gv8 gv9 gv10 gv11 ((laws_table9_suhsuh_v2.k0 N K gv2 gv3 gv4 gv5 gv6 gv7 gv8 gv9 gv10 gv11) (.exit 0) (laws_table9_suhsuh_v2.sx0_0 gv2 gv3 gv4 gv5 gv6 gv7 gv8 gv9 gv10 gv11)) m i12) := by
  intro m
  induction m with
  | zero => intros; rfl
  | succ m ih =>
    intro i12
    refine (laws_table9_suhsuh_v2.b0_eq N K (fun s => xloop (xcode (E33 N) ents laws_table9_suhsuh_v2.kp 4 N (cL (cK (cB (cA (cB (cB laws_table9_suhsuh_v2.bd)))))) 0) laws_table9_suhsuh_v2.kp 4 0 m s (laws_table9_suhsuh_v2.k0 N K gv2 gv3 gv4 gv5 gv6 gv7 gv8 gv9 gv10 gv11)) av0 bv1 gv2 gv3 gv4 gv5 gv6 gv7 gv8 gv9 gv10 gv11 i12).trans ?_
    simp only [ih]
    kernel_rfl
theorem laws_table9_suhsuh_v2.s_eq {ρ : Type} (N : Nat) (K : AV → Heap → Option ρ) (av0 : Nat) (bv1 : Nat) (gv2 : Nat) (gv3 : Nat) (gv4 : Nat → Nat) (gv5 : Nat → Nat) (gv6 : Nat) (gv7 : Nat) (gv8 : Nat → Nat) (gv9 : Nat → Nat) (gv10 : Nat → Int) (gv11 : Nat → Int) :
    xbody (E33 N) ents laws_table9_suhsuh_v2.kp N Try.f30 laws_table9_suhsuh_v2.bd [.slice true 0 0 av0 .unk 1, .slice true 1 0 bv1 .unk 1] [⟨false, .hdr 2 gv2 gv3 gv4 gv5 none⟩, ⟨false, .hdr 3 gv6 gv7 gv8 gv9 none⟩, ⟨false, .flat 0 (.ints .i64 gv10)⟩, ⟨false, .flat 0 (.ints .i64 gv11)⟩] K = (laws_table9_suhsuh_v2.s N (fun d0 => K (.bool (d0)) [⟨false, .hdr 2 gv2 gv3 gv4 gv5 none⟩, ⟨false, .hdr 3 gv6 gv7 gv8 gv9 none⟩, ⟨false, .flat 0 (.ints .i64 gv10)⟩, ⟨false, .flat 0 (.ints .i64 gv11)⟩]) (fun i12 => xloop (xcode (E33 N) ents laws_table9_suhsuh_v2.kp 4 N (cL (cK (cB (cA (cB (cB laws_table9_suhsuh_v2.bd)))))) 0) laws_table9_suhsuh_v2.kp 4 0 N (laws_table9_suhsuh_v2.st0 av0 bv1 gv2 gv3 gv4 gv5 gv6 gv7 gv8 gv9 gv10 gv11 i12) (laws_table9_suhsuh_v2.k0 N K gv2 gv3 gv4 gv5 gv6 gv7 gv8 gv9 gv10 gv11)) av0 bv1) := by kernel_rfl
theorem laws_table9_suhsuh_v2.eqb {ρ : Type} (N : Nat) (K : AV → Heap → Option ρ) (av0 : Nat) (bv1 : Nat) (gv2 : Nat) (gv3 : Nat) (gv4 : Nat → Nat) (gv5 : Nat → Nat) (gv6 : Nat) (gv7 : Nat) (gv8 : Nat → Nat) (gv9 : Nat → Nat) (gv10 : Nat → Int) (gv11 : Nat → Int) :
    xbody (E33 N) ents laws_table9_suhsuh_v2.kp N Try.f30 laws_table9_suhsuh_v2.bd [.slice true 0 0 av0 .unk 1, .slice true 1 0 bv1 .unk 1] [⟨false, .hdr 2 gv2 gv3 gv4 gv5 none⟩, ⟨false, .hdr 3 gv6 gv7 gv8 gv9 none⟩, ⟨false, .flat 0 (.ints .i64 gv10)⟩, ⟨false, .flat 0 (.ints .i64 gv11)⟩] K = (laws_table9_suhsuh_v2.bdy N (fun d0 => K (.bool (d0)) [⟨false, .hdr 2 gv2 gv3 gv4 gv5 none⟩, ⟨false, .hdr 3 gv6 gv7 gv8 gv9 none⟩, ⟨false, .flat 0 (.ints .i64 gv10)⟩, ⟨false, .flat 0 (.ints .i64 gv11)⟩]) av0 bv1 gv2 gv3 gv4 gv5 gv6 gv7 gv8 gv9 gv10 gv11) := by
  refine (laws_table9_suhsuh_v2.s_eq N K av0 bv1 gv2 gv3 gv4 gv5 gv6 gv7 gv8 gv9 gv10 gv11).trans ?_
  simp only [laws_table9_suhsuh_v2.l0_eq, laws_table9_suhsuh_v2.a0_0_eq]
  kernel_rfl
theorem laws_table9_suhsuh_v2.eq {ρ : Type} (N : Nat) (K : AV → Heap → Option ρ) (av0 : Nat) (bv1 : Nat) (gv2 : Nat) (gv3 : Nat) (gv4 : Nat → Nat) (gv5 : Nat → Nat) (gv6 : Nat) (gv7 : Nat) (gv8 : Nat → Nat) (gv9 : Nat → Nat) (gv10 : Nat → Int) (gv11 : Nat → Int) :
    xbody (E33 N) ents laws_table9_suhsuh_v2.kp N Try.f30 laws_table9_suhsuh_v2.bd [.slice true 0 0 av0 .unk 1, .slice true 1 0 bv1 .unk 1] [⟨false, .hdr 2 gv2 gv3 gv4 gv5 none⟩, ⟨false, .hdr 3 gv6 gv7 gv8 gv9 none⟩, ⟨false, .flat 0 (.ints .i64 gv10)⟩, ⟨false, .flat 0 (.ints .i64 gv11)⟩] K = (laws_table9_suhsuh_v2 N (fun d0 => K (.bool (d0)) [⟨false, .hdr 2 gv2 gv3 gv4 gv5 none⟩, ⟨false, .hdr 3 gv6 gv7 gv8 gv9 none⟩, ⟨false, .flat 0 (.ints .i64 gv10)⟩, ⟨false, .flat 0 (.ints .i64 gv11)⟩]) av0 bv1 gv2 gv3 gv4 gv5 gv6 gv7 gv8 gv9 gv10 gv11) :=
  (laws_table9_suhsuh_v2.eqb N K av0 bv1 gv2 gv3 gv4 gv5 gv6 gv7 gv8 gv9 gv10 gv11).trans (laws_table9_suhsuh_v2.opq _ _ _ _ _ _ _ _ _ _ _ _ _ _).symm
def laws_table9_suhsuh.en (N : Nat) (ρ : Type) : List AV → Heap → (AV → Heap → Option ρ) → Option ρ
  | [.slice false 0 0 av0 .unk 1, .slice false 1 0 bv1 .unk 1], [⟨false, .hdr 2 gv2 gv3 gv4 gv5 none⟩, ⟨false, .hdr 3 gv6 gv7 gv8 gv9 none⟩, ⟨false, .flat 0 (.ints .i64 gv10)⟩, ⟨false, .flat 0 (.ints .i64 gv11)⟩], K => (laws_table9_suhsuh N (fun d0 => K (.bool (d0)) [⟨false, .hdr 2 gv2 gv3 gv4 gv5 none⟩, ⟨false, .hdr 3 gv6 gv7 gv8 gv9 none⟩, ⟨false, .flat 0 (.ints .i64 gv10)⟩, ⟨false, .flat 0 (.ints .i64 gv11)⟩]) av0 bv1 gv2 gv3 gv4 gv5 gv6 gv7 gv8 gv9 gv10 gv11)
  | [.slice true 0 0 av0 .unk 1, .slice true 1 0 bv1 .unk 1], [⟨false, .hdr 2 gv2 gv3 gv4 gv5 none⟩, ⟨false, .hdr 3 gv6 gv7 gv8 gv9 none⟩, ⟨false, .flat 0 (.ints .i64 gv10)⟩, ⟨false, .flat 0 (.ints .i64 gv11)⟩], K => (laws_table9_suhsuh_v2 N (fun d0 => K (.bool (d0)) [⟨false, .hdr 2 gv2 gv3 gv4 gv5 none⟩, ⟨false, .hdr 3 gv6 gv7 gv8 gv9 none⟩, ⟨false, .flat 0 (.ints .i64 gv10)⟩, ⟨false, .flat 0 (.ints .i64 gv11)⟩]) av0 bv1 gv2 gv3 gv4 gv5 gv6 gv7 gv8 gv9 gv10 gv11)
  | _, _, _ => none
theorem laws_table9_suhsuh.en_ok (N : Nat) (hE : EnvOk (E33 N) ents) (ρ : Type) (args : List AV) (sh : Heap) (K : AV → Heap → Option ρ) (r : ρ) (h : laws_table9_suhsuh.en N ρ args sh K = some r) : ∃ v sh', K v sh' = some r ∧ FnOk (E33 N).P 30 args sh v sh' := by
  unfold laws_table9_suhsuh.en at h
  split at h
  · exact fn_ok hE (kp := laws_table9_suhsuh.kp) (N := N) Try.func30 (c := laws_table9_suhsuh.bd) (by kernel_rfl) ((laws_table9_suhsuh.eq N _ _ _ _ _ _ _ _ _ _ _ _ _).trans h)
  · exact fn_ok hE (kp := laws_table9_suhsuh_v2.kp) (N := N) Try.func30 (c := laws_table9_suhsuh_v2.bd) (by kernel_rfl) ((laws_table9_suhsuh_v2.eq N _ _ _ _ _ _ _ _ _ _ _ _ _).trans h)
  · cases h
def E34 (N : Nat) : Env := (E33 N).add 30 (laws_table9_suhsuh.en N)
theorem E34_ok (N : Nat) : EnvOk (E34 N) ents := Env.add_ok (E33_ok N) (laws_table9_suhsuh.en_ok N (E33_ok N))
def spec_DrawDihedralTable_su.kp : Keeps := ⟨[], [], []⟩
def spec_DrawDihedralTable_su.bd : Code := bodyOf Try.f31
def spec_DrawDihedralTable_su.fin {ρ : Type} (N : Nat) (K : AV → Heap → Option ρ) (gv1 : Nat) (gv2 : Nat → Int) : XE → St → Option ρ := finK (E34 N) spec_DrawDihedralTable_su.kp.fins Try.f31 [⟨false, .flat gv1 (.ints .u8 gv2)⟩] K
theorem spec_DrawDihedralTable_su.eqb {ρ : Type} (N : Nat) (K : AV → Heap → Option ρ) (code0 : Nat) (gv1 : Nat) (gv2 : Nat → Int) :
    xbody (E34 N) ents spec_DrawDihedralTable_su.kp N Try.f31 spec_DrawDihedralTable_su.bd [.slice false 0 0 code0 .unk 1] [⟨false, .flat gv1 (.ints .u8 gv2)⟩] K = (spec_DrawDihedralTable_su.bdy N (fun d0 => K (.int .i64 (d0)) [⟨false, .flat gv1 (.ints .u8 gv2)⟩]) code0 gv1 gv2) := by kernel_rfl
theorem spec_DrawDihedralTable_su.eq {ρ : Type} (N : Nat) (K : AV → Heap → Option ρ) (code0 : Nat) (gv1 : Nat) (gv2 : Nat → Int) :
    xbody (E34 N) ents spec_DrawDihedralTable_su.kp N Try.f31 spec_DrawDihedralTable_su.bd [.slice false 0 0 code0 .unk 1] [⟨false, .flat gv1 (.ints .u8 gv2)⟩] K = (spec_DrawDihedralTable_su N (fun d0 => K (.int .i64 (d0)) [⟨false, .flat gv1 (.ints .u8 gv2)⟩]) code0 gv1 gv2) :=
  (spec_DrawDihedralTable_su.eqb N K code0 gv1 gv2).trans (spec_DrawDihedralTable_su.opq _ _ _ _ _).symm
def spec_DrawDihedralTable_su.en (N : Nat) (ρ : Type) : List AV → Heap → (AV → Heap → Option ρ) → Option ρ
  | [.slice false 0 0 code0 .unk 1], [⟨false, .flat gv1 (.ints .u8 gv2)⟩], K => (spec_DrawDihedralTable_su N (fun d0 => K (.int .i64 (d0)) [⟨false, .flat gv1 (.ints .u8 gv2)⟩]) code0 gv1 gv2)
  | _, _, _ => none
theorem spec_DrawDihedralTable_su.en_ok (N : Nat) (hE : EnvOk (E34 N) ents) (ρ : Type) (args : List AV) (sh : Heap) (K : AV → Heap → Option ρ) (r : ρ) (h : spec_DrawDihedralTable_su.en N ρ args sh K = some r) : ∃ v sh', K v sh' = some r ∧ FnOk (E34 N).P 31 args sh v sh' := by
  unfold spec_DrawDihedralTable_su.en at h
  split at h
  · exact fn_ok hE (kp := spec_DrawDihedralTable_su.kp) (N := N) Try.func31 (c := spec_DrawDihedralTable_su.bd) (by kernel_rfl) ((spec_DrawDihedralTable_su.eq N _ _ _ _).trans h)
  · cases h
def E35 (N : Nat) : Env := (E34 N).add 31 (spec_DrawDihedralTable_su.en N)
theorem E35_ok (N : Nat) : EnvOk (E35 N) ents := Env.add_ok (E34_ok N) (spec_DrawDihedralTable_su.en_ok N (E34_ok N))
def spec_DihedralTable.kp : Keeps := ⟨[], [], [(.slot 2, .unkH .i64)]⟩
def spec_DihedralTable.bd : Code := bodyOf Try.f32
def spec_DihedralTable.fin {ρ : Type} (N : Nat) (K : AV → Heap → Option ρ) : XE → St → Option ρ := finK (E35 N) spec_DihedralTable.kp.fins Try.f32 [] K
theorem spec_DihedralTable.eqb {ρ : Type} (N : Nat) (K : AV → Heap → Option ρ) (nv0 : Int) :
    xbody (E35 N) ents spec_DihedralTable.kp N Try.f32 spec_DihedralTable.bd [.int .i64 (nv0)] [] K = (spec_DihedralTable.bdy N (fun d0 d1 d2 d3 d4 d5 => K (.tup [.slice false 0 0 d0 .unk 1, .int .i64 (d1)]) [⟨true, .hdr 1 0 d2 d3 d4 none⟩, ⟨true, .flat 0 (.ints .i64 d5)⟩]) nv0) := by kernel_rfl
theorem spec_DihedralTable.eq {ρ : Type} (N : Nat) (K : AV → Heap → Option ρ) (nv0 : Int) :
    xbody (E35 N) ents spec_DihedralTable.kp N Try.f32 spec_DihedralTable.bd [.int .i64 (nv0)] [] K = (spec_DihedralTable N (fun d0 d1 d2 d3 d4 d5 => K (.tup [.slice false 0 0 d0 .unk 1, .int .i64 (d1)]) [⟨true, .hdr 1 0 d2 d3 d4 none⟩, ⟨true, .flat 0 (.ints .i64 d5)⟩]) nv0) :=
  (spec_DihedralTable.eqb N K nv0).trans (spec_DihedralTable.opq _ _ _).symm
def spec_DihedralTable.en (N : Nat) (ρ : Type) : List AV → Heap → (AV → Heap → Option ρ) → Option ρ
  | [.int .i64 (nv0)], [], K => (spec_DihedralTable N (fun d0 d1 d2 d3 d4 d5 => K (.tup [.slice false 0 0 d0 .unk 1, .int .i64 (d1)]) [⟨true, .hdr 1 0 d2 d3 d4 none⟩, ⟨true, .flat 0 (.ints .i64 d5)⟩]) nv0)
  | _, _, _ => none
theorem spec_DihedralTable.en_ok (N : Nat) (hE : EnvOk (E35 N) ents) (ρ : Type) (args : List AV) (sh : Heap) (K : AV → Heap → Option ρ) (r : ρ) (h : spec_DihedralTable.en N ρ args sh K = some r) : ∃ v sh', K v sh' = some r ∧ FnOk (E35 N).P 32 args sh v sh' := by
  unfold spec_DihedralTable.en at h
  split at h
  · exact fn_ok hE (kp := spec_DihedralTable.kp) (N := N) Try.func32 (c := spec_DihedralTable.bd) (by kernel_rfl) ((spec_DihedralTable.eq N _ _).trans h)
  · cases h
def E36 (N : Nat) : Env := (E35 N).add 32 (spec_DihedralTable.en N)
theorem E36_ok (N : Nat) : EnvOk (E36 N) ents := Env.add_ok (E35_ok N) (spec_DihedralTable.en_ok N (E35_ok N))
def impl_dihedral.kp : Keeps := ⟨[], [], []⟩
def impl_dihedral.bd : Code := bodyOf Try.f58
def impl_dihedral.fin {ρ : Type} (N : Nat) (K : AV → Heap → Option ρ) : XE → St → Option ρ := finK (E36 N) impl_dihedral.kp.fins Try.f58 [] K
theorem impl_dihedral.eq {ρ : Type} (N : Nat) (K : AV → Heap → Option ρ) (nv0 : Int) :
    xbody (E36 N) ents impl_dihedral.kp N Try.f58 impl_dihedral.bd [.int .i64 (nv0)] [] K = (impl_dihedral N (fun d0 d1 d2 d3 d4 => K (.slice true 0 0 d0 .whole 1) [⟨true, .hdr 1 0 d1 d2 d3 none⟩, ⟨true, .flat 0 (.ints .i64 d4)⟩]) nv0) := by kernel_rfl
def impl_dihedral.en (N : Nat) (ρ : Type) : List AV → Heap → (AV → Heap → Option ρ) → Option ρ
  | [.int .i64 (nv0)], [], K => (impl_dihedral N (fun d0 d1 d2 d3 d4 => K (.slice true 0 0 d0 .whole 1) [⟨true, .hdr 1 0 d1 d2 d3 none⟩, ⟨true, .flat 0 (.ints .i64 d4)⟩]) nv0)
  | _, _, _ => none
theorem impl_dihedral.en_ok (N : Nat) (hE : EnvOk (E36 N) ents) (ρ : Type) (args : List AV) (sh : Heap) (K : AV → Heap → Option ρ) (r : ρ) (h : impl_dihedral.en N ρ args sh K = some r) : ∃ v sh', K v sh' = some r ∧ FnOk (E36 N).P 58 args sh v sh' := by
  unfold impl_dihedral.en at h
  split at h
  · exact fn_ok hE (kp := impl_dihedral.kp) (N := N) Try.func58 (c := impl_dihedral.bd) (by kernel_rfl) ((impl_dihedral.eq N _ _).trans h)
  · cases h
def E37 (N : Nat) : Env := (E36 N).add 58 (impl_dihedral.en N)
theorem E37_ok (N : Nat) : EnvOk (E37 N) ents := Env.add_ok (E36_ok N) (impl_dihedral.en_ok N (E36_ok N))
def impl_DihedralTable.kp : Keeps := ⟨[], [], [(.slot 2, .unkH .i64)]⟩
def impl_DihedralTable.bd : Code := bodyOf Try.f33
def impl_DihedralTable.fin {ρ : Type} (N : Nat) (K : AV → Heap → Option ρ) : XE → St → Option ρ := finK (E37 N) impl_DihedralTable.kp.fins Try.f33 [] K
theorem impl_DihedralTable.eqb {ρ : Type} (N : Nat) (K : AV → Heap → Option ρ) (nv0 : Int) :
    xbody (E37 N) ents impl_DihedralTable.kp N Try.f33 impl_DihedralTable.bd [.int .i64 (nv0)] [] K = (impl_DihedralTable.bdy N (fun d0 d1 d2 d3 d4 d5 => K (.tup [.slice false 0 0 d0 .unk 1, .int .i64 (d1)]) [⟨true, .hdr 1 0 d2 d3 d4 none⟩, ⟨true, .flat 0 (.ints .i64 d5)⟩]) nv0) := by kernel_rfl
theorem impl_DihedralTable.eq {ρ : Type} (N : Nat) (K : AV → Heap → Option ρ) (nv0 : Int) :
    xbody (E37 N) ents impl_DihedralTable.kp N Try.f33 impl_DihedralTable.bd [.int .i64 (nv0)] [] K = (impl_DihedralTable N (fun d0 d1 d2 d3 d4 d5 => K (.tup [.slice false 0 0 d0 .unk 1, .int .i64 (d1)]) [⟨true, .hdr 1 0 d2 d3 d4 none⟩, ⟨true, .flat 0 (.ints .i64 d5)⟩]) nv0) :=
  (impl_DihedralTable.eqb N K nv0).trans (impl_DihedralTable.opq _ _ _).symm
def impl_DihedralTable.en (N : Nat) (ρ : Type) : List AV → Heap → (AV → Heap → Option ρ) → Option ρ
  | [.int .i64 (nv0)], [], K => (impl_DihedralTable N (fun d0 d1 d2 d3 d4 d5 => K (.tup [.slice false 0 0 d0 .unk 1, .int .i64 (d1)]) [⟨true, .hdr 1 0 d2 d3 d4 none⟩, ⟨true, .flat 0 (.ints .i64 d5)⟩]) nv0)
  | _, _, _ => none
theorem impl_DihedralTable.en_ok (N : Nat) (hE : EnvOk (E37 N) ents) (ρ : Type) (args : List AV) (sh : Heap) (K : AV → Heap → Option ρ) (r : ρ) (h : impl_DihedralTable.en N ρ args sh K = some r) : ∃ v sh', K v sh' = some r ∧ FnOk (E37 N).P 33 args sh v sh' := by
  unfold impl_DihedralTable.en at h
  split at h
  · exact fn_ok hE (kp := impl_DihedralTable.kp) (N := N) Try.func33 (c := impl_DihedralTable.bd) (by kernel_rfl) ((impl_DihedralTable.eq N _ _).trans h)
  · cases h
def E38 (N : Nat) : Env := (E37 N).add 33 (impl_DihedralTable.en N)
theorem E38_ok (N : Nat) : EnvOk (E38 N) ents := Env.add_ok (E37_ok N) (impl_DihedralTable.en_ok N (E37_ok N))
def impl_QuaternionTable.kp : Keeps := ⟨[], [], []⟩
def impl_QuaternionTable.bd : Code := bodyOf Try.f34
def impl_QuaternionTable.fin {ρ : Type} (N : Nat) (K : AV → Heap → Option ρ) : XE → St → Option ρ := finK (E38 N) impl_QuaternionTable.kp.fins Try.f34 [] K
theorem impl_QuaternionTable.eqb {ρ : Type} (N : Nat) (K : AV → Heap → Option ρ) :
    xbody (E38 N) ents impl_QuaternionTable.kp N Try.f34 impl_QuaternionTable.bd [] [] K = (impl_QuaternionTable.bdy N (fun d0 d1 d2 d3 d4 => K (.slice true 0 0 d0 .whole 1) [⟨true, .hdr 1 0 d1 d2 d3 none⟩, ⟨true, .flat 0 (.ints .i64 d4)⟩])) := by kernel_rfl
theorem impl_QuaternionTable.eq {ρ : Type} (N : Nat) (K : AV → Heap → Option ρ) :
    xbody (E38 N) ents impl_QuaternionTable.kp N Try.f34 impl_QuaternionTable.bd [] [] K = (impl_QuaternionTable N (fun d0 d1 d2 d3 d4 => K (.slice true 0 0 d0 .whole 1) [⟨true, .hdr 1 0 d1 d2 d3 none⟩, ⟨true, .flat 0 (.ints .i64 d4)⟩])) :=
  (impl_QuaternionTable.eqb N K).trans (impl_QuaternionTable.opq _ _).symm
def impl_QuaternionTable.en (N : Nat) (ρ : Type) : List AV → Heap → (AV → Heap → Option ρ) → Option ρ
  | [], [], K => (impl_QuaternionTable N (fun d0 d1 d2 d3 d4 => K (.slice true 0 0 d0 .whole 1) [⟨true, .hdr 1 0 d1 d2 d3 none⟩, ⟨true, .flat 0 (.ints .i64 d4)⟩]))
  | _, _, _ => none
theorem impl_QuaternionTable.en_ok (N : Nat) (hE : EnvOk (E38 N) ents) (ρ : Type) (args : List AV) (sh : Heap) (K : AV → Heap → Option ρ) (r : ρ) (h : impl_QuaternionTable.en N ρ args sh K = some r) : ∃ v sh', K v sh' = some r ∧ FnOk (E38 N).P 34 args sh v sh' := by
  unfold impl_QuaternionTable.en at h
  split at h
  · exact fn_ok hE (kp := impl_QuaternionTable.kp) (N := N) Try.func34 (c := impl_QuaternionTable.bd) (by kernel_rfl) ((impl_QuaternionTable.eq N _ ).trans h)
  · cases h
def E39 (N : Nat) : Env := (E38 N).add 34 (impl_QuaternionTable.en N)
theorem E39_ok (N : Nat) : EnvOk (E39 N) ents := Env.add_ok (E38_ok N) (impl_QuaternionTable.en_ok N (E38_ok N))
def spec_QuaternionTable.kp : Keeps := ⟨[], [], []⟩
def spec_QuaternionTable.bd : Code := bodyOf Try.f35
def spec_QuaternionTable.fin {ρ : Type} (N : Nat) (K : AV → Heap → Option ρ) : XE → St → Option ρ := finK (E39 N) spec_QuaternionTable.kp.fins Try.f35 [] K
theorem spec_QuaternionTable.eqb {ρ : Type} (N : Nat) (K : AV → Heap → Option ρ) :
    xbody (E39 N) ents spec_QuaternionTable.kp N Try.f35 spec_QuaternionTable.bd [] [] K = (spec_QuaternionTable.bdy N (fun d0 d1 d2 d3 d4 => K (.slice true 0 0 d0 .whole 1) [⟨true, .hdr 1 0 d1 d2 d3 none⟩, ⟨true, .flat 0 (.ints .i64 d4)⟩])) := by kernel_rfl
theorem spec_QuaternionTable.eq {ρ : Type} (N : Nat) (K : AV → Heap → Option ρ) :
    xbody (E39 N) ents spec_QuaternionTable.kp N Try.f35 spec_QuaternionTable.bd [] [] K = (spec_QuaternionTable N (fun d0 d1 d2 d3 d4 => K (.slice true 0 0 d0 .whole 1) [⟨true, .hdr 1 0 d1 d2 d3 none⟩, ⟨true, .flat 0 (.ints .i64 d4)⟩])) :=
  (spec_QuaternionTable.eqb N K).trans (spec_QuaternionTable.opq _ _).symm
def spec_QuaternionTable.en (N : Nat) (ρ : Type) : List AV → Heap → (AV → Heap → Option ρ) → Option ρ
  | [], [], K => (spec_QuaternionTable N (fun d0 d1 d2 d3 d4 => K (.slice true 0 0 d0 .whole 1) [⟨true, .hdr 1 0 d1 d2 d3 none⟩, ⟨true, .flat 0 (.ints .i64 d4)⟩]))
  | _, _, _ => none
theorem spec_QuaternionTable.en_ok (N : Nat) (hE : EnvOk (E39 N) ents) (ρ : Type) (args : List AV) (sh : Heap) (K : AV → Heap → Option ρ) (r : ρ) (h : spec_QuaternionTable.en N ρ args sh K = some r) : ∃ v sh', K v sh' = some r ∧ FnOk (E39 N).P 35 args sh v sh' := by
  unfold spec_QuaternionTable.en at h
  split at h
  · exact fn_ok hE (kp := spec_QuaternionTable.kp) (N := N) Try.func35 (c := spec_QuaternionTable.bd) (by kernel_rfl) ((spec_QuaternionTable.eq N _ ).trans h)
  · cases h
def E40 (N : Nat) : Env := (E39 N).add 35 (spec_QuaternionTable.en N)
theorem E40_ok (N : Nat) : EnvOk (E40 N) ents := Env.add_ok (E39_ok N) (spec_QuaternionTable.en_ok N (E39_ok N))
def spec_DrawProductOfTables_su.kp : Keeps := ⟨[], [], []⟩
def spec_DrawProductOfTables_su.bd : Code := bodyOf Try.f36
def spec_DrawProductOfTables_su.fin {ρ : Type} (N : Nat) (K : AV → Heap → Option ρ) (gv1 : Nat) (gv2 : Nat → Int) : XE → St → Option ρ := finK (E40 N) spec_DrawProductOfTables_su.kp.fins Try.f36 [⟨false, .flat gv1 (.ints .u8 gv2)⟩] K
theorem spec_DrawProductOfTables_su.eqb {ρ : Type} (N : Nat) (K : AV → Heap → Option ρ) (code0 : Nat) (gv1 : Nat) (gv2 : Nat → Int) :
    xbody (E40 N) ents spec_DrawProductOfTables_su.kp N Try.f36 spec_DrawProductOfTables_su.bd [.slice false 0 0 code0 .unk 1] [⟨false, .flat gv1 (.ints .u8 gv2)⟩] K = (spec_DrawProductOfTables_su.bdy N (fun d0 d1 d2 d3 d4 d5 d6 d7 d8 d9 => K (.tup [.slice true 1 0 d0 .whole 1, .slice true 2 0 d1 .whole 1]) [⟨false, .flat gv1 (.ints .u8 gv2)⟩, ⟨true, .hdr 3 0 d2 d3 d4 none⟩, ⟨true, .hdr 4 0 d5 d6 d7 none⟩, ⟨true, .flat 0 (.ints .i64 d8)⟩, ⟨true, .flat 0 (.ints .i64 d9)⟩]) code0 gv1 gv2) := by kernel_rfl
theorem spec_DrawProductOfTables_su.eq {ρ : Type} (N : Nat) (K : AV → Heap → Option ρ) (code0 : Nat) (gv1 : Nat) (gv2 : Nat → Int) :
    xbody (E40 N) ents spec_DrawProductOfTables_su.kp N Try.f36 spec_DrawProductOfTables_su.bd [.slice false 0 0 code0 .unk 1] [⟨false, .flat gv1 (.ints .u8 gv2)⟩] K = (spec_DrawProductOfTables_su N (fun d0 d1 d2 d3 d4 d5 d6 d7 d8 d9 => K (.tup [.slice true 1 0 d0 .whole 1, .slice true 2 0 d1 .whole 1]) [⟨false, .flat gv1 (.ints .u8 gv2)⟩, ⟨true, .hdr 3 0 d2 d3 d4 none⟩, ⟨true, .hdr 4 0 d5 d6 d7 none⟩, ⟨true, .flat 0 (.ints .i64 d8)⟩, ⟨true, .flat 0 (.ints .i64 d9)⟩]) code0 gv1 gv2) :=
  (spec_DrawProductOfTables_su.eqb N K code0 gv1 gv2).trans (spec_DrawProductOfTables_su.opq _ _ _ _ _).symm
def spec_DrawProductOfTables_su.en (N : Nat) (ρ : Type) : List AV → Heap → (AV → Heap → Option ρ) → Option ρ
  | [.slice false 0 0 code0 .unk 1], [⟨false, .flat gv1 (.ints .u8 gv2)⟩], K => (spec_DrawProductOfTables_su N (fun d0 d1 d2 d3 d4 d5 d6 d7 d8 d9 => K (.tup [.slice true 1 0 d0 .whole 1, .slice true 2 0 d1 .whole 1]) [⟨false, .flat gv1 (.ints .u8 gv2)⟩, ⟨true, .hdr 3 0 d2 d3 d4 none⟩, ⟨true, .hdr 4 0 d5 d6 d7 none⟩, ⟨true, .flat 0 (.ints .i64 d8)⟩, ⟨true, .flat 0 (.ints .i64 d9)⟩]) code0 gv1 gv2)
  | _, _, _ => none
theorem spec_DrawProductOfTables_su.en_ok (N : Nat) (hE : EnvOk (E40 N) ents) (ρ : Type) (args : List AV) (sh : Heap) (K : AV → Heap → Option ρ) (r : ρ) (h : spec_DrawProductOfTables_su.en N ρ args sh K = some r) : ∃ v sh', K v sh' = some r ∧ FnOk (E40 N).P 36 args sh v sh' := by
  unfold spec_DrawProductOfTables_su.en at h
  split at h
  · exact fn_ok hE (kp := spec_DrawProductOfTables_su.kp) (N := N) Try.func36 (c := spec_DrawProductOfTables_su.bd) (by kernel_rfl) ((spec_DrawProductOfTables_su.eq N _ _ _ _).trans h)
  · cases h
def E41 (N : Nat) : Env := (E40 N).add 36 (spec_DrawProductOfTables_su.en N)
theorem E41_ok (N : Nat) : EnvOk (E41 N) ents := Env.add_ok (E40_ok N) (spec_DrawProductOfTables_su.en_ok N (E40_ok N))
def spec_ProductOfTables_suhsuh.kp : Keeps := ⟨[], [], [(.slot 4, .unkH .i64)]⟩
def spec_ProductOfTables_suhsuh.bd : Code := bodyOf Try.f21
def spec_ProductOfTables_suhsuh.fin {ρ : Type} (N : Nat) (K : AV → Heap → Option ρ) (gv2 : Nat) (gv3 : Nat) (gv4 : Nat → Nat) (gv5 : Nat → Nat) (gv6 : Nat) (gv7 : Nat) (gv8 : Nat → Nat) (gv9 : Nat → Nat) (gv10 : Nat → Int) (gv11 : Nat → Int) : XE → St → Option ρ := finK (E41 N) spec_ProductOfTables_suhsuh.kp.fins Try.f21 [⟨false, .hdr 2 gv2 gv3 gv4 gv5 none⟩, ⟨false, .hdr 3 gv6 gv7 gv8 gv9 none⟩, ⟨false, .flat 0 (.ints .i64 gv10)⟩, ⟨false, .flat 0 (.ints .i64 gv11)⟩] K
theorem spec_ProductOfTables_suhsuh.eqb {ρ : Type} (N : Nat) (K : AV → Heap → Option ρ) (table0 : Nat) (other1 : Nat) (gv2 : Nat) (gv3 : Nat) (gv4 : Nat → Nat) (gv5 : Nat → Nat) (gv6 : Nat) (gv7 : Nat) (gv8 : Nat → Nat) (gv9 : Nat → Nat) (gv10 : Nat → Int) (gv11 : Nat → Int) :
    xbody (E41 N) ents spec_ProductOfTables_suhsuh.kp N Try.f21 spec_ProductOfTables_suhsuh.bd [.slice true 0 0 table0 .unk 1, .slice true 1 0 other1 .unk 1] [⟨false, .hdr 2 gv2 gv3 gv4 gv5 none⟩, ⟨false, .hdr 3 gv6 gv7 gv8 gv9 none⟩, ⟨false, .flat 0 (.ints .i64 gv10)⟩, ⟨false, .flat 0 (.ints .i64 gv11)⟩] K = (spec_ProductOfTables_suhsuh.bdy N (fun d0 d1 d2 d3 d4 d5 => K (.tup [.slice false 4 0 d0 .unk 1, .int .i64 (d1)]) [⟨false, .hdr 2 gv2 gv3 gv4 gv5 none⟩, ⟨false, .hdr 3 gv6 gv7 gv8 gv9 none⟩, ⟨false, .flat 0 (.ints .i64 gv10)⟩, ⟨false, .flat 0 (.ints .i64 gv11)⟩, ⟨true, .hdr 5 0 d2 d3 d4 none⟩, ⟨true, .flat 0 (.ints .i64 d5)⟩]) table0 other1 gv2 gv3 gv4 gv5 gv6 gv7 gv8 gv9 gv10 gv11) := by kernel_rfl
theorem spec_ProductOfTables_suhsuh.eq {ρ : Type} (N : Nat) (K : AV → Heap → Option ρ) (table0 : Nat) (other1 : Nat) (gv2 : Nat) (gv3 : Nat) (gv4 : Nat → Nat) (gv5 : Nat → Nat) (gv6 : Nat) (gv7 : Nat) (gv8 : Nat → Nat) (gv9 : Nat → Nat) (gv10 : Nat → Int) (gv11 : Nat → Int) :
    xbody (E41 N) ents spec_ProductOfTables_suhsuh.kp N Try.f21 spec_ProductOfTables_suhsuh.bd [.slice true 0 0 table0 .unk 1, .slice true 1 0 other1 .unk 1] [⟨false, .hdr 2 gv2 gv3 gv4 gv5 none⟩, ⟨false, .hdr 3 gv6 gv7 gv8 gv9 none⟩, ⟨false, .flat 0 (.ints .i64 gv10)⟩, ⟨false, .flat 0 (.ints .i64 gv11)⟩] K = (spec_ProductOfTables_suhsuh N (fun d0 d1 d2 d3 d4 d5 => K (.tup [.slice false 4 0 d0 .unk 1, .int .i64 (d1)]) [⟨false, .hdr 2 gv2 gv3 gv4 gv5 none⟩, ⟨false, .hdr 3 gv6 gv7 gv8 gv9 none⟩, ⟨false, .flat 0 (.ints .i64 gv10)⟩, ⟨false, .flat 0 (.ints .i64 gv11)⟩, ⟨true, .hdr 5 0 d2 d3 d4 none⟩, ⟨true, .flat 0 (.ints .i64 d5)⟩]) table0 other1 gv2 gv3 gv4 gv5 gv6 gv7 gv8 gv9 gv10 gv11) :=
  (spec_ProductOfTables_suhsuh.eqb N K table0 other1 gv2 gv3 gv4 gv5 gv6 gv7 gv8 gv9 gv10 gv11).trans (spec_ProductOfTables_suhsuh.opq _ _ _ _ _ _ _ _ _ _ _ _ _ _).symm
def spec_ProductOfTables_suhsuh.en (N : Nat) (ρ : Type) : List AV → Heap → (AV → Heap → Option ρ) → Option ρ
  | [.slice true 0 0 table0 .unk 1, .slice true 1 0 other1 .unk 1], [⟨false, .hdr 2 gv2 gv3 gv4 gv5 none⟩, ⟨false, .hdr 3 gv6 gv7 gv8 gv9 none⟩, ⟨false, .flat 0 (.ints .i64 gv10)⟩, ⟨false, .flat 0 (.ints .i64 gv11)⟩], K => (spec_ProductOfTables_suhsuh N (fun d0 d1 d2 d3 d4 d5 => K (.tup [.slice false 4 0 d0 .unk 1, .int .i64 (d1)]) [⟨false, .hdr 2 gv2 gv3 gv4 gv5 none⟩, ⟨false, .hdr 3 gv6 gv7 gv8 gv9 none⟩, ⟨false, .flat 0 (.ints .i64 gv10)⟩, ⟨false, .flat 0 (.ints .i64 gv11)⟩, ⟨true, .hdr 5 0 d2 d3 d4 none⟩, ⟨true, .flat 0 (.ints .i64 d5)⟩]) table0 other1 gv2 gv3 gv4 gv5 gv6 gv7 gv8 gv9 gv10 gv11)
  | _, _, _ => none
theorem spec_ProductOfTables_suhsuh.en_ok (N : Nat) (hE : EnvOk (E41 N) ents) (ρ : Type) (args : List AV) (sh : Heap) (K : AV → Heap → Option ρ) (r : ρ) (h : spec_ProductOfTables_suhsuh.en N ρ args sh K = some r) : ∃ v sh', K v sh' = some r ∧ FnOk (E41 N).P 21 args sh v sh' := by
  unfold spec_ProductOfTables_suhsuh.en at h
  split at h
  · exact fn_ok hE (kp := spec_ProductOfTables_suhsuh.kp) (N := N) Try.func21 (c := spec_ProductOfTables_suhsuh.bd) (by kernel_rfl) ((spec_ProductOfTables_suhsuh.eq N _ _ _ _ _ _ _ _ _ _ _ _ _).trans h)
  · cases h
def E42 (N : Nat) : Env := (E41 N).add 21 (spec_ProductOfTables_suhsuh.en N)
theorem E42_ok (N : Nat) : EnvOk (E42 N) ents := Env.add_ok (E41_ok N) (spec_ProductOfTables_suhsuh.en_ok N (E41_ok N))
def impl_unless.kp : Keeps := ⟨[], [], []⟩
def impl_unless.bd : Code := bodyOf Try.f48
def impl_unless.fin {ρ : Type} (N : Nat) (K : AV → Heap → Option ρ) : XE → St → Option ρ := finK (E42 N) impl_unless.kp.fins Try.f48 [] K
theorem impl_unless.eq {ρ : Type} (N : Nat) (K : AV → Heap → Option ρ) (so0 : Bool) (code1 : Int) :
    xbody (E42 N) ents impl_unless.kp N Try.f48 impl_unless.bd [.bool (so0), .int .i64 (code1)] [] K = (impl_unless N (fun d0 => K (.int .i64 (d0)) []) so0 code1) := by kernel_rfl
def impl_unless.en (N : Nat) (ρ : Type) : List AV → Heap → (AV → Heap → Option ρ) → Option ρ
  | [.bool (so0), .int .i64 (code1)], [], K => (impl_unless N (fun d0 => K (.int .i64 (d0)) []) so0 code1)
  | _, _, _ => none
theorem impl_unless.en_ok (N : Nat) (hE : EnvOk (E42 N) ents) (ρ : Type) (args : List AV) (sh : Heap) (K : AV → Heap → Option ρ) (r : ρ) (h : impl_unless.en N ρ args sh K = some r) : ∃ v sh', K v sh' = some r ∧ FnOk (E42 N).P 48 args sh v sh' := by
  unfold impl_unless.en at h
  split at h
  · exact fn_ok hE (kp := impl_unless.kp) (N := N) Try.func48 (c := impl_unless.bd) (by kernel_rfl) ((impl_unless.eq N _ _ _).trans h)
  · cases h
def E43 (N : Nat) : Env := (E42 N).add 48 (impl_unless.en N)
theorem E43_ok (N : Nat) : EnvOk (E43 N) ents := Env.add_ok (E42_ok N) (impl_unless.en_ok N (E42_ok N))
def impl_first_s.kp : Keeps := ⟨[(0, [5, 6, 7], [], [])], [(0, [], [], [])], []⟩
def impl_first_s.bd : Code := bodyOf Try.f47
def impl_first_s.fin {ρ : Type} (N : Nat) (K : AV → Heap → Option ρ) (gv2 : Nat) (gv3 : Nat → Int) : XE → St → Option ρ := finK (E43 N) impl_first_s.kp.fins Try.f47 [⟨false, .flat gv2 (.ints .i64 gv3)⟩] K
def impl_first_s.k0 {ρ : Type} (N : Nat) (K : AV → Heap → Option ρ) (gv2 : Nat) (gv3 : Nat → Int) : XE → St → Option ρ := (blockK impl_first_s.kp 1 0 (seqK (xcode (E43 N) ents impl_first_s.kp 1 N (cB (cB impl_first_s.bd)) 0) (impl_first_s.fin N K gv2 gv3)))
theorem impl_first_s.k0_mix {ρ : Type} (N : Nat) (K : AV → Heap → Option ρ) (gv2 : Nat) (gv3 : Nat → Int) : mixK (impl_first_s.fin N K gv2 gv3 .ret) (impl_first_s.k0 N K gv2 gv3) = (impl_first_s.k0 N K gv2 gv3) := by
  funext e s; cases e <;> kernel_rfl
def impl_first_s.st0 (codes0 : Nat) (codes1 : Nat) (gv2 : Nat) (gv3 : Nat → Int) (x4 : Int) : St := ⟨sl 15 [(5, .slice true 0 0 codes0 (.exact codes1) 1), (6, .int .i64 ((codes0 : Int))), (7, .int .i64 (x4))], [⟨false, .flat gv2 (.ints .i64 gv3)⟩]⟩
def impl_first_s.sx0_0 (gv2 : Nat) (gv3 : Nat → Int) : St := ⟨sl 15 [], [⟨false, .flat gv2 (.ints .i64 gv3)⟩]⟩
theorem impl_first_s.b0_gen {ρ : Type} (N : Nat) (K : AV → Heap → Option ρ) (L0 : St → Option ρ) (kv : XE → St → Option ρ) (codes0 : Nat) (codes1 : Nat) (gv2 : Nat) (gv3 : Nat → Int) (x4 : Int) :
    xcode (E43 N) ents impl_first_s.kp 1 N (cL (cK (cB (cA (cB impl_first_s.bd))))) 0 (impl_first_s.st0 codes0 codes1 gv2 gv3 x4) (roundK impl_first_s.kp 1 0 L0 (mixK (impl_first_s.fin N K gv2 gv3 .ret) kv)) = (impl_first_s.b0 N (fun d0 => K (.int .i64 (d0)) [⟨false, .flat gv2 (.ints .i64 gv3)⟩]) (fun x4 => L0 (impl_first_s.st0 codes0 codes1 gv2 gv3 x4)) (kv (.exit 0) (impl_first_s.sx0_0 gv2 gv3)) codes0 gv3 x4) := by kernel_rfl
theorem impl_first_s.b0_eq {ρ : Type} (N : Nat) (K : AV → Heap → Option ρ) (L0 : St → Option ρ) (codes0 : Nat) (codes1 : Nat) (gv2 : Nat) (gv3 : Nat → Int) (x4 : Int) :
    xcode (E43 N) ents impl_first_s.kp 1 N (cL (cK (cB (cA (cB impl_first_s.bd))))) 0 (impl_first_s.st0 codes0 codes1 gv2 gv3 x4) (roundK impl_first_s.kp 1 0 L0 (impl_first_s.k0 N K gv2 gv3)) = (impl_first_s.b0 N (fun d0 => K (.int .i64 (d0)) [⟨false, .flat gv2 (.ints .i64 gv3)⟩]) (fun x4 => L0 (impl_first_s.st0 codes0 codes1 gv2 gv3 x4)) ((impl_first_s.k0 N K gv2 gv3) (.exit 0) (impl_first_s.sx0_0 gv2 gv3)) codes0 gv3 x4) := by
  have h := impl_first_s.b0_gen N K L0 (impl_first_s.k0 N K gv2 gv3) codes0 codes1 gv2 gv3 x4
  rw [impl_first_s.k0_mix] at h
  exact h
theorem impl_first_s.a0_0_eq {ρ : Type} (N : Nat) (K : AV → Heap → Option ρ) (gv2 : Nat) (gv3 : Nat → Int) :
    (impl_first_s.k0 N K gv2 gv3) (.exit 0) (impl_first_s.sx0_0 gv2 gv3) = (impl_first_s.a0_0 N (fun d0 => K (.int .i64 (d0)) [⟨false, .flat gv2 (.ints .i64 gv3)⟩])) := by kernel_rfl
theorem impl_first_s.l0_eq {ρ : Type} (N : Nat) (K : AV → Heap → Option ρ) (codes0 : Nat) (codes1 : Nat) (gv2 : Nat) (gv3 : Nat → Int) :
    ∀ (m : Nat) (x4 : Int), xloop (xcode (E43 N) ents impl_first_s.kp 1 N (cL (cK (cB (cA (cB impl_first_s.bd))))) 0) impl_first_s.kp 1 0 m (impl_first_s.st0 codes0 codes1 gv2 gv3 x4) (impl_first_s.k0 N K gv2 gv3) = (impl_first_s.l0 N (fun d0 => K (.int .i64 (d0)) [⟨false, .flat gv2 (.ints .i64 gv3)⟩]) codes0 gv3 ((impl_first_s.k0 N K gv2 gv3) (.exit 0) (impl_first_s.sx0_0 gv2 gv3)) m x4) := by
  intro m
  induction m with
  | zero => intros; rfl
  | succ m ih =>
    intro x4
    refine (impl_first_s.b0_eq N K (fun s => xloop (xcode (E43 N) ents impl_first_s.kp 1 N (cL (cK (cB (cA (cB impl_first_s.bd))))) 0) impl_first_s.kp 1 0 m s (impl_first_s.k0 N K gv2 gv3)) codes0 codes1 gv2 gv3 x4).trans ?_
    simp only [ih]
    kernel_rfl
theorem impl_first_s.s_eq {ρ : Type} (N : Nat) (K : AV → Heap → Option ρ) (codes0 : Nat) (codes1 : Nat) (gv2 : Nat) (gv3 : Nat → Int) :
    xbody (E43 N) ents impl_first_s.kp N Try.f47 impl_first_s.bd [.slice true 0 0 codes0 (.exact codes1) 1] [⟨false, .flat gv2 (.ints .i64 gv3)⟩] K = (impl_first_s.s N (fun d0 => K (.int .i64 (d0)) [⟨false, .flat gv2 (.ints .i64 gv3)⟩]) (fun x4 => xloop (xcode (E43 N) ents impl_first_s.kp 1 N (cL (cK (cB (cA (cB impl_first_s.bd))))) 0) impl_first_s.kp 1 0 N (impl_first_s.st0 codes0 codes1 gv2 gv3 x4) (impl_first_s.k0 N K gv2 gv3))) := by kernel_rfl
theorem impl_first_s.eq {ρ : Type} (N : Nat) (K : AV → Heap → Option ρ) (codes0 : Nat) (codes1 : Nat) (gv2 : Nat) (gv3 : Nat → Int) :
    xbody (E43 N) ents impl_first_s.kp N Try.f47 impl_first_s.bd [.slice true 0 0 codes0 (.exact codes1) 1] [⟨false, .flat gv2 (.ints .i64 gv3)⟩] K = (impl_first_s N (fun d0 => K (.int .i64 (d0)) [⟨false, .flat gv2 (.ints .i64 gv3)⟩]) codes0 codes1 gv2 gv3) := by
  refine (impl_first_s.s_eq N K codes0 codes1 gv2 gv3).trans ?_
  simp only [impl_first_s.l0_eq, impl_first_s.a0_0_eq]
  kernel_rfl
def impl_first_s.en (N : Nat) (ρ : Type) : List AV → Heap → (AV → Heap → Option ρ) → Option ρ
  | [.slice true 0 0 codes0 (.exact codes1) 1], [⟨false, .flat gv2 (.ints .i64 gv3)⟩], K => (impl_first_s N (fun d0 => K (.int .i64 (d0)) [⟨false, .flat gv2 (.ints .i64 gv3)⟩]) codes0 codes1 gv2 gv3)
  | _, _, _ => none
theorem impl_first_s.en_ok (N : Nat) (hE : EnvOk (E43 N) ents) (ρ : Type) (args : List AV) (sh : Heap) (K : AV → Heap → Option ρ) (r : ρ) (h : impl_first_s.en N ρ args sh K = some r) : ∃ v sh', K v sh' = some r ∧ FnOk (E43 N).P 47 args sh v sh' := by
  unfold impl_first_s.en at h
  split at h
  · exact fn_ok hE (kp := impl_first_s.kp) (N := N) Try.func47 (c := impl_first_s.bd) (by kernel_rfl) ((impl_first_s.eq N _ _ _ _ _).trans h)
  · cases h
def E44 (N : Nat) : Env := (E43 N).add 47 (impl_first_s.en N)
theorem E44_ok (N : Nat) : EnvOk (E44 N) ents := Env.add_ok (E43_ok N) (impl_first_s.en_ok N (E43_ok N))
def impl_productTable_suhsuh.kp : Keeps := ⟨[], [], []⟩
def impl_productTable_suhsuh.bd : Code := bodyOf Try.f49
def impl_productTable_suhsuh.fin {ρ : Type} (N : Nat) (K : AV → Heap → Option ρ) (gv2 : Nat) (gv3 : Nat) (gv4 : Nat → Nat) (gv5 : Nat → Nat) (gv6 : Nat) (gv7 : Nat) (gv8 : Nat → Nat) (gv9 : Nat → Nat) (gv10 : Nat → Int) (gv11 : Nat → Int) : XE → St → Option ρ := finK (E44 N) impl_productTable_suhsuh.kp.fins Try.f49 [⟨false, .hdr 2 gv2 gv3 gv4 gv5 none⟩, ⟨false, .hdr 3 gv6 gv7 gv8 gv9 none⟩, ⟨false, .flat 0 (.ints .i64 gv10)⟩, ⟨false, .flat 0 (.ints .i64 gv11)⟩] K
theorem impl_productTable_suhsuh.eq {ρ : Type} (N : Nat) (K : AV → Heap → Option ρ) (av0 : Nat) (bv1 : Nat) (gv2 : Nat) (gv3 : Nat) (gv4 : Nat → Nat) (gv5 : Nat → Nat) (gv6 : Nat) (gv7 : Nat) (gv8 : Nat → Nat) (gv9 : Nat → Nat) (gv10 : Nat → Int) (gv11 : Nat → Int) :
    xbody (E44 N) ents impl_productTable_suhsuh.kp N Try.f49 impl_productTable_suhsuh.bd [.slice true 0 0 av0 .unk 1, .slice true 1 0 bv1 .unk 1] [⟨false, .hdr 2 gv2 gv3 gv4 gv5 none⟩, ⟨false, .hdr 3 gv6 gv7 gv8 gv9 none⟩, ⟨false, .flat 0 (.ints .i64 gv10)⟩, ⟨false, .flat 0 (.ints .i64 gv11)⟩] K = (impl_productTable_suhsuh N (fun d0 d1 d2 d3 d4 => K (.slice true 4 0 d0 .whole 1) [⟨false, .hdr 2 gv2 gv3 gv4 gv5 none⟩, ⟨false, .hdr 3 gv6 gv7 gv8 gv9 none⟩, ⟨false, .flat 0 (.ints .i64 gv10)⟩, ⟨false, .flat 0 (.ints .i64 gv11)⟩, ⟨true, .hdr 5 0 d1 d2 d3 none⟩, ⟨true, .flat 0 (.ints .i64 d4)⟩]) av0 bv1 gv2 gv3 gv4 gv5 gv6 gv7 gv8 gv9 gv10 gv11) := by kernel_rfl
def impl_productTable_suhsuh.en (N : Nat) (ρ : Type) : List AV → Heap → (AV → Heap → Option ρ) → Option ρ
  | [.slice true 0 0 av0 .unk 1, .slice true 1 0 bv1 .unk 1], [⟨false, .hdr 2 gv2 gv3 gv4 gv5 none⟩, ⟨false, .hdr 3 gv6 gv7 gv8 gv9 none⟩, ⟨false, .flat 0 (.ints .i64 gv10)⟩, ⟨false, .flat 0 (.ints .i64 gv11)⟩], K => (impl_productTable_suhsuh N (fun d0 d1 d2 d3 d4 => K (.slice true 4 0 d0 .whole 1) [⟨false, .hdr 2 gv2 gv3 gv4 gv5 none⟩, ⟨false, .hdr 3 gv6 gv7 gv8 gv9 none⟩, ⟨false, .flat 0 (.ints .i64 gv10)⟩, ⟨false, .flat 0 (.ints .i64 gv11)⟩, ⟨true, .hdr 5 0 d1 d2 d3 none⟩, ⟨true, .flat 0 (.ints .i64 d4)⟩]) av0 bv1 gv2 gv3 gv4 gv5 gv6 gv7 gv8 gv9 gv10 gv11)
  | _, _, _ => none
theorem impl_productTable_suhsuh.en_ok (N : Nat) (hE : EnvOk (E44 N) ents) (ρ : Type) (args : List AV) (sh : Heap) (K : AV → Heap → Option ρ) (r : ρ) (h : impl_productTable_suhsuh.en N ρ args sh K = some r) : ∃ v sh', K v sh' = some r ∧ FnOk (E44 N).P 49 args sh v sh' := by
  unfold impl_productTable_suhsuh.en at h
  split at h
  · exact fn_ok hE (kp := impl_productTable_suhsuh.kp) (N := N) Try.func49 (c := impl_productTable_suhsuh.bd) (by kernel_rfl) ((impl_productTable_suhsuh.eq N _ _ _ _ _ _ _ _ _ _ _ _ _).trans h)
  · cases h
def E45 (N : Nat) : Env := (E44 N).add 49 (impl_productTable_suhsuh.en N)
theorem E45_ok (N : Nat) : EnvOk (E45 N) ents := Env.add_ok (E44_ok N) (impl_productTable_suhsuh.en_ok N (E44_ok N))
def impl_ProductOfTables_suhsuh.kp : Keeps := ⟨[], [], [(.slot 4, .unkH .i64)]⟩
def impl_ProductOfTables_suhsuh.bd : Code := bodyOf Try.f22
def impl_ProductOfTables_suhsuh.fin {ρ : Type} (N : Nat) (K : AV → Heap → Option ρ) (gv2 : Nat) (gv3 : Nat) (gv4 : Nat → Nat) (gv5 : Nat → Nat) (gv6 : Nat) (gv7 : Nat) (gv8 : Nat → Nat) (gv9 : Nat → Nat) (gv10 : Nat → Int) (gv11 : Nat → Int) : XE → St → Option ρ := finK (E45 N) impl_ProductOfTables_suhsuh.kp.fins Try.f22 [⟨false, .hdr 2 gv2 gv3 gv4 gv5 none⟩, ⟨false, .hdr 3 gv6 gv7 gv8 gv9 none⟩, ⟨false, .flat 0 (.ints .i64 gv10)⟩, ⟨false, .flat 0 (.ints .i64 gv11)⟩] K
theorem impl_ProductOfTables_suhsuh.eqb {ρ : Type} (N : Nat) (K : AV → Heap → Option ρ) (table0 : Nat) (other1 : Nat) (gv2 : Nat) (gv3 : Nat) (gv4 : Nat → Nat) (gv5 : Nat → Nat) (gv6 : Nat) (gv7 : Nat) (gv8 : Nat → Nat) (gv9 : Nat → Nat) (gv10 : Nat → Int) (gv11 : Nat → Int) :
    xbody (E45 N) ents impl_ProductOfTables_suhsuh.kp N Try.f22 impl_ProductOfTables_suhsuh.bd [.slice true 0 0 table0 .unk 1, .slice true 1 0 other1 .unk 1] [⟨false, .hdr 2 gv2 gv3 gv4 gv5 none⟩, ⟨false, .hdr 3 gv6 gv7 gv8 gv9 none⟩, ⟨false, .flat 0 (.ints .i64 gv10)⟩, ⟨false, .flat 0 (.ints .i64 gv11)⟩] K = (impl_ProductOfTables_suhsuh.bdy N (fun d0 d1 d2 d3 d4 d5 => K (.tup [.slice false 4 0 d0 .unk 1, .int .i64 (d1)]) [⟨false, .hdr 2 gv2 gv3 gv4 gv5 none⟩, ⟨false, .hdr 3 gv6 gv7 gv8 gv9 none⟩, ⟨false, .flat 0 (.ints .i64 gv10)⟩, ⟨false, .flat 0 (.ints .i64 gv11)⟩, ⟨true, .hdr 5 0 d2 d3 d4 none⟩, ⟨true, .flat 0 (.ints .i64 d5)⟩]) table0 other1 gv2 gv3 gv4 gv5 gv6 gv7 gv8 gv9 gv10 gv11) := by kernel_rfl
theorem impl_ProductOfTables_suhsuh.eq {ρ : Type} (N : Nat) (K : AV → Heap → Option ρ) (table0 : Nat) (other1 : Nat) (gv2 : Nat) (gv3 : Nat) (gv4 : Nat → Nat) (gv5 : Nat → Nat) (gv6 : Nat) (gv7 : Nat) (gv8 : Nat → Nat) (gv9 : Nat → Nat) (gv10 : Nat → Int) (gv11 : Nat → Int) :
    xbody (E45 N) ents impl_ProductOfTables_suhsuh.kp N Try.f22 impl_ProductOfTables_suhsuh.bd [.slice true 0 0 table0 .unk 1, .slice true 1 0 other1 .unk 1] [⟨false, .hdr 2 gv2 gv3 gv4 gv5 none⟩, ⟨false, .hdr 3 gv6 gv7 gv8 gv9 none⟩, ⟨false, .flat 0 (.ints .i64 gv10)⟩, ⟨false, .flat 0 (.ints .i64 gv11)⟩] K = (impl_ProductOfTables_suhsuh N (fun d0 d1 d2 d3 d4 d5 => K (.tup [.slice false 4 0 d0 .unk 1, .int .i64 (d1)]) [⟨false, .hdr 2 gv2 gv3 gv4 gv5 none⟩, ⟨false, .hdr 3 gv6 gv7 gv8 gv9 none⟩, ⟨false, .flat 0 (.ints .i64 gv10)⟩, ⟨false, .flat 0 (.ints .i64 gv11)⟩, ⟨true, .hdr 5 0 d2 d3 d4 none⟩, ⟨true, .flat 0 (.ints .i64 d5)⟩]) table0 other1 gv2 gv3 gv4 gv5 gv6 gv7 gv8 gv9 gv10 gv11) :=
  (impl_ProductOfTables_suhsuh.eqb N K table0 other1 gv2 gv3 gv4 gv5 gv6 gv7 gv8 gv9 gv10 gv11).trans (impl_ProductOfTables_suhsuh.opq _ _ _ _ _ _ _ _ _ _ _ _ _ _).symm
def impl_ProductOfTables_suhsuh.en (N : Nat) (ρ : Type) : List AV → Heap → (AV → Heap → Option ρ) → Option ρ
  | [.slice true 0 0 table0 .unk 1, .slice true 1 0 other1 .unk 1], [⟨false, .hdr 2 gv2 gv3 gv4 gv5 none⟩, ⟨false, .hdr 3 gv6 gv7 gv8 gv9 none⟩, ⟨false, .flat 0 (.ints .i64 gv10)⟩, ⟨false, .flat 0 (.ints .i64 gv11)⟩], K => (impl_ProductOfTables_suhsuh N (fun d0 d1 d2 d3 d4 d5 => K (.tup [.slice false 4 0 d0 .unk 1, .int .i64 (d1)]) [⟨false, .hdr 2 gv2 gv3 gv4 gv5 none⟩, ⟨false, .hdr 3 gv6 gv7 gv8 gv9 none⟩, ⟨false, .flat 0 (.ints .i64 gv10)⟩, ⟨false, .flat 0 (.ints .i64 gv11)⟩, ⟨true, .hdr 5 0 d2 d3 d4 none⟩, ⟨true, .flat 0 (.ints .i64 d5)⟩]) table0 other1 gv2 gv3 gv4 gv5 gv6 gv7 gv8 gv9 gv10 gv11)
  | _, _, _ => none
theorem impl_ProductOfTables_suhsuh.en_ok (N : Nat) (hE : EnvOk (E45 N) ents) (ρ : Type) (args : List AV) (sh : Heap) (K : AV → Heap → Option ρ) (r : ρ) (h : impl_ProductOfTables_suhsuh.en N ρ args sh K = some r) : ∃ v sh', K v sh' = some r ∧ FnOk (E45 N).P 22 args sh v sh' := by
  unfold impl_ProductOfTables_suhsuh.en at h
  split at h
  · exact fn_ok hE (kp := impl_ProductOfTables_suhsuh.kp) (N := N) Try.func22 (c := impl_ProductOfTables_suhsuh.bd) (by kernel_rfl) ((impl_ProductOfTables_suhsuh.eq N _ _ _ _ _ _ _ _ _ _ _ _ _).trans h)
  · cases h
def E46 (N : Nat) : Env := (E45 N).add 22 (impl_ProductOfTables_suhsuh.en N)
theorem E46_ok (N : Nat) : EnvOk (E46 N) ents := Env.add_ok (E45_ok N) (impl_ProductOfTables_suhsuh.en_ok N (E45_ok N))
def spec_DrawOrdersIn_su.kp : Keeps := ⟨[], [], []⟩
def spec_DrawOrdersIn_su.bd : Code := bodyOf Try.f37
def spec_DrawOrdersIn_su.fin {ρ : Type} (N : Nat) (K : AV → Heap → Option ρ) (gv1 : Nat) (gv2 : Nat → Int) : XE → St → Option ρ := finK (E46 N) spec_DrawOrdersIn_su.kp.fins Try.f37 [⟨false, .flat gv1 (.ints .u8 gv2)⟩] K
theorem spec_DrawOrdersIn_su.eqb {ρ : Type} (N : Nat) (K : AV → Heap → Option ρ) (code0 : Nat) (gv1 : Nat) (gv2 : Nat → Int) :
    xbody (E46 N) ents spec_DrawOrdersIn_su.kp N Try.f37 spec_DrawOrdersIn_su.bd [.slice false 0 0 code0 .unk 1] [⟨false, .flat gv1 (.ints .u8 gv2)⟩] K = (spec_DrawOrdersIn_su.bdy N (fun d0 d1 d2 d3 d4 => K (.slice true 1 0 d0 .whole 1) [⟨false, .flat gv1 (.ints .u8 gv2)⟩, ⟨true, .hdr 2 0 d1 d2 d3 none⟩, ⟨true, .flat 0 (.ints .i64 d4)⟩]) code0 gv1 gv2) := by kernel_rfl
theorem spec_DrawOrdersIn_su.eq {ρ : Type} (N : Nat) (K : AV → Heap → Option ρ) (code0 : Nat) (gv1 : Nat) (gv2 : Nat → Int) :
    xbody (E46 N) ents spec_DrawOrdersIn_su.kp N Try.f37 spec_DrawOrdersIn_su.bd [.slice false 0 0 code0 .unk 1] [⟨false, .flat gv1 (.ints .u8 gv2)⟩] K = (spec_DrawOrdersIn_su N (fun d0 d1 d2 d3 d4 => K (.slice true 1 0 d0 .whole 1) [⟨false, .flat gv1 (.ints .u8 gv2)⟩, ⟨true, .hdr 2 0 d1 d2 d3 none⟩, ⟨true, .flat 0 (.ints .i64 d4)⟩]) code0 gv1 gv2) :=
  (spec_DrawOrdersIn_su.eqb N K code0 gv1 gv2).trans (spec_DrawOrdersIn_su.opq _ _ _ _ _).symm
def spec_DrawOrdersIn_su.en (N : Nat) (ρ : Type) : List AV → Heap → (AV → Heap → Option ρ) → Option ρ
  | [.slice false 0 0 code0 .unk 1], [⟨false, .flat gv1 (.ints .u8 gv2)⟩], K => (spec_DrawOrdersIn_su N (fun d0 d1 d2 d3 d4 => K (.slice true 1 0 d0 .whole 1) [⟨false, .flat gv1 (.ints .u8 gv2)⟩, ⟨true, .hdr 2 0 d1 d2 d3 none⟩, ⟨true, .flat 0 (.ints .i64 d4)⟩]) code0 gv1 gv2)
  | _, _, _ => none
theorem spec_DrawOrdersIn_su.en_ok (N : Nat) (hE : EnvOk (E46 N) ents) (ρ : Type) (args : List AV) (sh : Heap) (K : AV → Heap → Option ρ) (r : ρ) (h : spec_DrawOrdersIn_su.en N ρ args sh K = some r) : ∃ v sh', K v sh' = some r ∧ FnOk (E46 N).P 37 args sh v sh' := by
  unfold spec_DrawOrdersIn_su.en at h
  split at h
  · exact fn_ok hE (kp := spec_DrawOrdersIn_su.kp) (N := N) Try.func37 (c := spec_DrawOrdersIn_su.bd) (by kernel_rfl) ((spec_DrawOrdersIn_su.eq N _ _ _ _).trans h)
  · cases h
def E47 (N : Nat) : Env := (E46 N).add 37 (spec_DrawOrdersIn_su.en N)
theorem E47_ok (N : Nat) : EnvOk (E47 N) ents := Env.add_ok (E46_ok N) (spec_DrawOrdersIn_su.en_ok N (E46_ok N))
end
end Go.Proofs.YtiifnnokpjbapaaRR.H
