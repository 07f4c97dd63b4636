import Derived.Test.YtlehklooibbmcaaHL4
namespace Go.Proofs.Ytlehklooibbmcaa.H
noncomputable section
set_option linter.unusedVariables false
set_option linter.unusedSimpArgs false
open Go Go.RowKit Go.Proofs.Ytlehklooibbmcaa.Hy
set_option maxRecDepth 100000
def Q63.kp : Keeps := ⟨[(0, [0, 1, 5, 10, 11], [], []), (2, [0, 1, 5, 6, 7, 10, 11, 15, 16], [], [])], [(0, [5], [], []), (2, [0, 1, 5, 7, 10, 11], [], [])], []⟩
def Q63.bd : Code := bodyOf Try.f65
def Q63.fin {ρ : Type} (N : Nat) (K : AV → Heap → Option ρ) : XE → St → Option ρ := finK (E57 N) Q63.kp.fins Try.f65 [] K
def Q63.k0 {ρ : Type} (N : Nat) (K : AV → Heap → Option ρ) : XE → St → Option ρ := (blockK Q63.kp 0 0 (seqK (xcode (E57 N) ents Q63.kp 0 N (cB (cB (cB Q63.bd))) 0) (Q63.fin N K)))
theorem Q63.k0_mix {ρ : Type} (N : Nat) (K : AV → Heap → Option ρ) : mixK (Q63.fin N K .ret) (Q63.k0 N K) = (Q63.k0 N K) := by
  funext e s; cases e <;> kernel_rfl
def Q63.st0 (nv0 : Int) (outv1 : Nat) (x2 : Int) (gv3 : Nat) (gv4 : Nat → Nat) (gv5 : Nat → Nat) (gv6 : Nat → Int) : St := ⟨sl 33 [(0, .int .i64 (nv0)), (1, .fn 69 0 []), (5, .slice true 0 0 outv1 .whole 1), (10, .int .i64 (nv0)), (11, .int .i64 (x2))], [⟨true, .hdr 1 0 gv3 gv4 gv5 none⟩, ⟨true, .flat 0 (.ints .i64 gv6)⟩]⟩
def Q63.sx0_0 (ov13 : Nat) (ov14 : Nat) (ov15 : Nat → Nat) (ov16 : Nat → Nat) (ov17 : Nat → Int) : St := ⟨sl 33 [(5, .slice true 0 0 ov13 .whole 1)], [⟨true, .hdr 1 0 ov14 ov15 ov16 none⟩, ⟨true, .flat 0 (.ints .i64 ov17)⟩]⟩
def Q63.k1g {ρ : Type} (N : Nat) (L0 : St → Option ρ) (kv : XE → St → Option ρ) : XE → St → Option ρ := (blockK Q63.kp 0 2 (seqK (xcode (E57 N) ents Q63.kp 0 N (cB (cB (cB (cK (cA (cB (cB (cL (cK (cB (cA (cB (cB Q63.bd))))))))))))) 1) (blockK Q63.kp 0 1 (seqK (xcode (E57 N) ents Q63.kp 0 N (cB (cB (cB (cL (cK (cB (cA (cB (cB Q63.bd))))))))) 0) (roundK Q63.kp 0 0 L0 kv)))))
theorem Q63.k1_mix {ρ : Type} (N : Nat) (K : AV → Heap → Option ρ) (L0 : St → Option ρ) : mixK (Q63.fin N K .ret) (Q63.k1g N L0 (Q63.k0 N K)) = (Q63.k1g N L0 (Q63.k0 N K)) := by
  funext e s; cases e <;> kernel_rfl
def Q63.st1 (nv0 : Int) (outv1 : Nat) (x2 : Int) (gv3 : Nat) (gv4 : Nat → Nat) (gv5 : Nat → Nat) (gv6 : Nat → Int) (row7 : Nat) (x8 : Int) (gv9 : Nat → Int) : St := ⟨sl 33 [(0, .int .i64 (nv0)), (1, .fn 69 0 []), (5, .slice true 0 0 outv1 .whole 1), (6, .int .i64 (x2)), (7, .slice true 1 0 row7 .whole 1), (10, .int .i64 (nv0)), (11, .int .i64 (x2)), (15, .int .i64 (nv0)), (16, .int .i64 (x8))], [⟨true, .hdr 2 0 gv3 gv4 gv5 none⟩, ⟨true, .flat 0 (.ints .i64 gv9)⟩, ⟨true, .flat 0 (.ints .i64 gv6)⟩]⟩
def Q63.sx1_0 (nv0 : Int) (outv1 : Nat) (x2 : Int) (gv3 : Nat) (gv4 : Nat → Nat) (gv5 : Nat → Nat) (gv6 : Nat → Int) (ov11 : Nat) (ov12 : Nat → Int) : St := ⟨sl 33 [(0, .int .i64 (nv0)), (1, .fn 69 0 []), (5, .slice true 0 0 outv1 .whole 1), (7, .slice true 1 0 ov11 .whole 1), (10, .int .i64 (nv0)), (11, .int .i64 (x2))], [⟨true, .hdr 2 0 gv3 gv4 gv5 none⟩, ⟨true, .flat 0 (.ints .i64 ov12)⟩, ⟨true, .flat 0 (.ints .i64 gv6)⟩]⟩
theorem Q63.b1_gen {ρ : Type} (N : Nat) (K : AV → Heap → Option ρ) (L1 : St → Option ρ) (kv : XE → St → Option ρ) (nv0 : Int) (outv1 : Nat) (x2 : Int) (gv3 : Nat) (gv4 : Nat → Nat) (gv5 : Nat → Nat) (gv6 : Nat → Int) (row7 : Nat) (x8 : Int) (gv9 : Nat → Int) :
    xcode (E57 N) ents Q63.kp 0 N (cL (cK (cB (cA (cB (cB (cK (cA (cB (cB (cL (cK (cB (cA (cB (cB Q63.bd)))))))))))))))) 2 (Q63.st1 nv0 outv1 x2 gv3 gv4 gv5 gv6 row7 x8 gv9) (roundK Q63.kp 0 2 L1 (mixK (Q63.fin N K .ret) kv)) = (Q63.b1 N (fun d0 d1 d2 d3 d4 => K (.slice true 0 0 d0 .whole 1) [⟨true, .hdr 1 0 d1 d2 d3 none⟩, ⟨true, .flat 0 (.ints .i64 d4)⟩]) (fun row7 x8 gv9 => L1 (Q63.st1 nv0 outv1 x2 gv3 gv4 gv5 gv6 row7 x8 gv9)) (fun ov11 ov12 => kv (.exit 2) (Q63.sx1_0 nv0 outv1 x2 gv3 gv4 gv5 gv6 ov11 ov12)) nv0 x2 row7 x8 gv9) := by kernel_rfl
theorem Q63.b1_eq {ρ : Type} (N : Nat) (K : AV → Heap → Option ρ) (L0 : St → Option ρ) (L1 : St → Option ρ) (nv0 : Int) (outv1 : Nat) (x2 : Int) (gv3 : Nat) (gv4 : Nat → Nat) (gv5 : Nat → Nat) (gv6 : Nat → Int) (row7 : Nat) (x8 : Int) (gv9 : Nat → Int) :
    xcode (E57 N) ents Q63.kp 0 N (cL (cK (cB (cA (cB (cB (cK (cA (cB (cB (cL (cK (cB (cA (cB (cB Q63.bd)))))))))))))))) 2 (Q63.st1 nv0 outv1 x2 gv3 gv4 gv5 gv6 row7 x8 gv9) (roundK Q63.kp 0 2 L1 (Q63.k1g N L0 (Q63.k0 N K))) = (Q63.b1 N (fun d0 d1 d2 d3 d4 => K (.slice true 0 0 d0 .whole 1) [⟨true, .hdr 1 0 d1 d2 d3 none⟩, ⟨true, .flat 0 (.ints .i64 d4)⟩]) (fun row7 x8 gv9 => L1 (Q63.st1 nv0 outv1 x2 gv3 gv4 gv5 gv6 row7 x8 gv9)) (fun ov11 ov12 => (Q63.k1g N L0 (Q63.k0 N K)) (.exit 2) (Q63.sx1_0 nv0 outv1 x2 gv3 gv4 gv5 gv6 ov11 ov12)) nv0 x2 row7 x8 gv9) := by
  have h := Q63.b1_gen N K L1 (Q63.k1g N L0 (Q63.k0 N K)) nv0 outv1 x2 gv3 gv4 gv5 gv6 row7 x8 gv9
  rw [Q63.k1_mix] at h
  exact h
theorem Q63.a1_0_gen {ρ : Type} (N : Nat) (K : AV → Heap → Option ρ) (L0 : St → Option ρ) (kv : XE → St → Option ρ) (nv0 : Int) (outv1 : Nat) (x2 : Int) (gv3 : Nat) (gv4 : Nat → Nat) (gv5 : Nat → Nat) (gv6 : Nat → Int) (ov11 : Nat) (ov12 : Nat → Int) :
    (Q63.k1g N L0 (mixK (Q63.fin N K .ret) kv)) (.exit 2) (Q63.sx1_0 nv0 outv1 x2 gv3 gv4 gv5 gv6 ov11 ov12) = (Q63.a1_0 N (fun d0 d1 d2 d3 d4 => K (.slice true 0 0 d0 .whole 1) [⟨true, .hdr 1 0 d1 d2 d3 none⟩, ⟨true, .flat 0 (.ints .i64 d4)⟩]) (fun outv1 x2 gv3 gv4 gv5 gv6 => L0 (Q63.st0 nv0 outv1 x2 gv3 gv4 gv5 gv6)) (fun ov13 ov14 ov15 ov16 ov17 => kv (.exit 0) (Q63.sx0_0 ov13 ov14 ov15 ov16 ov17)) outv1 x2 gv3 gv4 gv5 gv6 ov11 ov12) := by kernel_rfl
theorem Q63.a1_0_eq {ρ : Type} (N : Nat) (K : AV → Heap → Option ρ) (L0 : St → Option ρ) (nv0 : Int) (outv1 : Nat) (x2 : Int) (gv3 : Nat) (gv4 : Nat → Nat) (gv5 : Nat → Nat) (gv6 : Nat → Int) (ov11 : Nat) (ov12 : Nat → Int) :
    (Q63.k1g N L0 (Q63.k0 N K)) (.exit 2) (Q63.sx1_0 nv0 outv1 x2 gv3 gv4 gv5 gv6 ov11 ov12) = (Q63.a1_0 N (fun d0 d1 d2 d3 d4 => K (.slice true 0 0 d0 .whole 1) [⟨true, .hdr 1 0 d1 d2 d3 none⟩, ⟨true, .flat 0 (.ints .i64 d4)⟩]) (fun outv1 x2 gv3 gv4 gv5 gv6 => L0 (Q63.st0 nv0 outv1 x2 gv3 gv4 gv5 gv6)) (fun ov13 ov14 ov15 ov16 ov17 => (Q63.k0 N K) (.exit 0) (Q63.sx0_0 ov13 ov14 ov15 ov16 ov17)) outv1 x2 gv3 gv4 gv5 gv6 ov11 ov12) := by
  have h := Q63.a1_0_gen N K L0 (Q63.k0 N K) nv0 outv1 x2 gv3 gv4 gv5 gv6 ov11 ov12
  rw [Q63.k0_mix] at h
  exact h
theorem Q63.b0_gen {ρ : Type} (N : Nat) (K : AV → Heap → Option ρ) (L0 : St → Option ρ) (kv : XE → St → Option ρ) (nv0 : Int) (outv1 : Nat) (x2 : Int) (gv3 : Nat) (gv4 : Nat → Nat) (gv5 : Nat → Nat) (gv6 : Nat → Int) :
    xcode (E57 N) ents Q63.kp 0 N (cL (cK (cB (cA (cB (cB Q63.bd)))))) 0 (Q63.st0 nv0 outv1 x2 gv3 gv4 gv5 gv6) (roundK Q63.kp 0 0 L0 (mixK (Q63.fin N K .ret) kv)) = (Q63.b0 N (fun d0 d1 d2 d3 d4 => K (.slice true 0 0 d0 .whole 1) [⟨true, .hdr 1 0 d1 d2 d3 none⟩, ⟨true, .flat 0 (.ints .i64 d4)⟩]) (fun row7 x8 gv9 => xloop (xcode (E57 N) ents Q63.kp 0 N (cL (cK (cB (cA (cB (cB (cK (cA (cB (cB (cL (cK (cB (cA (cB (cB Q63.bd)))))))))))))))) 2) Q63.kp 0 2 N (Q63.st1 nv0 outv1 x2 gv3 gv4 gv5 gv6 row7 x8 gv9) (Q63.k1g N L0 (mixK (Q63.fin N K .ret) kv))) (fun outv1 x2 gv3 gv4 gv5 gv6 => L0 (Q63.st0 nv0 outv1 x2 gv3 gv4 gv5 gv6)) (fun ov13 ov14 ov15 ov16 ov17 => kv (.exit 0) (Q63.sx0_0 ov13 ov14 ov15 ov16 ov17)) nv0 outv1 x2 gv3 gv4 gv5 gv6) := by kernel_rfl
theorem Q63.b0_eq {ρ : Type} (N : Nat) (K : AV → Heap → Option ρ) (L0 : St → Option ρ) (nv0 : Int) (outv1 : Nat) (x2 : Int) (gv3 : Nat) (gv4 : Nat → Nat) (gv5 : Nat → Nat) (gv6 : Nat → Int) :
    xcode (E57 N) ents Q63.kp 0 N (cL (cK (cB (cA (cB (cB Q63.bd)))))) 0 (Q63.st0 nv0 outv1 x2 gv3 gv4 gv5 gv6) (roundK Q63.kp 0 0 L0 (Q63.k0 N K)) = (Q63.b0 N (fun d0 d1 d2 d3 d4 => K (.slice true 0 0 d0 .whole 1) [⟨true, .hdr 1 0 d1 d2 d3 none⟩, ⟨true, .flat 0 (.ints .i64 d4)⟩]) (fun row7 x8 gv9 => xloop (xcode (E57 N) ents Q63.kp 0 N (cL (cK (cB (cA (cB (cB (cK (cA (cB (cB (cL (cK (cB (cA (cB (cB Q63.bd)))))))))))))))) 2) Q63.kp 0 2 N (Q63.st1 nv0 outv1 x2 gv3 gv4 gv5 gv6 row7 x8 gv9) (Q63.k1g N L0 (Q63.k0 N K))) (fun outv1 x2 gv3 gv4 gv5 gv6 => L0 (Q63.st0 nv0 outv1 x2 gv3 gv4 gv5 gv6)) (fun ov13 ov14 ov15 ov16 ov17 => (Q63.k0 N K) (.exit 0) (Q63.sx0_0 ov13 ov14 ov15 ov16 ov17)) nv0 outv1 x2 gv3 gv4 gv5 gv6) := by
  have h := Q63.b0_gen N K L0 (Q63.k0 N K) nv0 outv1 x2 gv3 gv4 gv5 gv6
  rw [Q63.k0_mix] at h
  exact h
theorem Q63.a0_0_eq {ρ : Type} (N : Nat) (K : AV → Heap → Option ρ) (ov13 : Nat) (ov14 : Nat) (ov15 : Nat → Nat) (ov16 : Nat → Nat) (ov17 : Nat → Int) :
    (Q63.k0 N K) (.exit 0) (Q63.sx0_0 ov13 ov14 ov15 ov16 ov17) = (Q63.a0_0 N (fun d0 d1 d2 d3 d4 => K (.slice true 0 0 d0 .whole 1) [⟨true, .hdr 1 0 d1 d2 d3 none⟩, ⟨true, .flat 0 (.ints .i64 d4)⟩]) ov13 ov14 ov15 ov16 ov17) := by kernel_rfl
theorem Q63.l1_eq {ρ : Type} (N : Nat) (K : AV → Heap → Option ρ) (L0 : St → Option ρ) (nv0 : Int) (outv1 : Nat) (x2 : Int) (gv3 : Nat) (gv4 : Nat → Nat) (gv5 : Nat → Nat) (gv6 : Nat → Int) :
    ∀ (m : Nat) (row7 : Nat) (x8 : Int) (gv9 : Nat → Int), xloop (xcode (E57 N) ents Q63.kp 0 N (cL (cK (cB (cA (cB (cB (cK (cA (cB (cB (cL (cK (cB (cA (cB (cB Q63.bd)))))))))))))))) 2) Q63.kp 0 2 m (Q63.st1 nv0 outv1 x2 gv3 gv4 gv5 gv6 row7 x8 gv9) (Q63.k1g N L0 (Q63.k0 N K)) = (Q63.l1 N (fun d0 d1 d2 d3 d4 => K (.slice true 0 0 d0 .whole 1) [⟨true, .hdr 1 0 d1 d2 d3 none⟩, ⟨true, .flat 0 (.ints .i64 d4)⟩]) nv0 x2 (fun ov11 ov12 => (Q63.k1g N L0 (Q63.k0 N K)) (.exit 2) (Q63.sx1_0 nv0 outv1 x2 gv3 gv4 gv5 gv6 ov11 ov12)) m row7 x8 gv9) := by
  intro m
  induction m with
  | zero => intros; rfl
  | succ m ih =>
    intro row7 x8 gv9
    refine (Q63.b1_eq N K L0 (fun s => xloop (xcode (E57 N) ents Q63.kp 0 N (cL (cK (cB (cA (cB (cB (cK (cA (cB (cB (cL (cK (cB (cA (cB (cB Q63.bd)))))))))))))))) 2) Q63.kp 0 2 m s (Q63.k1g N L0 (Q63.k0 N K))) nv0 outv1 x2 gv3 gv4 gv5 gv6 row7 x8 gv9).trans ?_
    simp only [ih]
    kernel_rfl
theorem Q63.l0_eq {ρ : Type} (N : Nat) (K : AV → Heap → Option ρ) (nv0 : Int) :
    ∀ (m : Nat) (outv1 : Nat) (x2 : Int) (gv3 : Nat) (gv4 : Nat → Nat) (gv5 : Nat → Nat) (gv6 : Nat → Int), xloop (xcode (E57 N) ents Q63.kp 0 N (cL (cK (cB (cA (cB (cB Q63.bd)))))) 0) Q63.kp 0 0 m (Q63.st0 nv0 outv1 x2 gv3 gv4 gv5 gv6) (Q63.k0 N K) = (Q63.l0 N (fun d0 d1 d2 d3 d4 => K (.slice true 0 0 d0 .whole 1) [⟨true, .hdr 1 0 d1 d2 d3 none⟩, ⟨true, .flat 0 (.ints .i64 d4)⟩]) nv0 (fun ov13 ov14 ov15 ov16 ov17 => (Q63.k0 N K) (.exit 0) (Q63.sx0_0 ov13 ov14 ov15 ov16 ov17)) m outv1 x2 gv3 gv4 gv5 gv6) := by
  intro m
  induction m with
  | zero => intros; rfl
  | succ m ih =>
    intro outv1 x2 gv3 gv4 gv5 gv6
    refine (Q63.b0_eq N K (fun s => xloop (xcode (E57 N) ents Q63.kp 0 N (cL (cK (cB (cA (cB (cB Q63.bd)))))) 0) Q63.kp 0 0 m s (Q63.k0 N K)) nv0 outv1 x2 gv3 gv4 gv5 gv6).trans ?_
    simp only [ih, Q63.l1_eq, Q63.a1_0_eq]
    kernel_rfl
theorem Q63.s_eq {ρ : Type} (N : Nat) (K : AV → Heap → Option ρ) (nv0 : Int) :
    xbody (E57 N) ents Q63.kp N Try.f65 Q63.bd [.int .i64 (nv0), .fn 69 0 []] [] K = (Q63.s N (fun d0 d1 d2 d3 d4 => K (.slice true 0 0 d0 .whole 1) [⟨true, .hdr 1 0 d1 d2 d3 none⟩, ⟨true, .flat 0 (.ints .i64 d4)⟩]) (fun outv1 x2 gv3 gv4 gv5 gv6 => xloop (xcode (E57 N) ents Q63.kp 0 N (cL (cK (cB (cA (cB (cB Q63.bd)))))) 0) Q63.kp 0 0 N (Q63.st0 nv0 outv1 x2 gv3 gv4 gv5 gv6) (Q63.k0 N K))) := by kernel_rfl
theorem Q63.eq {ρ : Type} (N : Nat) (K : AV → Heap → Option ρ) (nv0 : Int) :
    xbody (E57 N) ents Q63.kp N Try.f65 Q63.bd [.int .i64 (nv0), .fn 69 0 []] [] K = (Q63 N (fun d0 d1 d2 d3 d4 => K (.slice true 0 0 d0 .whole 1) [⟨true, .hdr 1 0 d1 d2 d3 none⟩, ⟨true, .flat 0 (.ints .i64 d4)⟩]) nv0) := by
  refine (Q63.s_eq N K nv0).trans ?_
  simp only [Q63.l0_eq, Q63.a0_0_eq]
  kernel_rfl
def Q53.en (N : Nat) (ρ : Type) : List AV → Heap → (AV → Heap → Option ρ) → Option ρ
  | [.int .i64 (nv0), .fn 66 0 [[(0, 1)]]], [⟨false, .flat 1 (.ints .i64 gv1)⟩], K => (Q53 N (fun d0 d1 d2 d3 d4 => K (.slice true 1 0 d0 .whole 1) [⟨false, .flat 1 (.ints .i64 gv1)⟩, ⟨true, .hdr 2 0 d1 d2 d3 none⟩, ⟨true, .flat 0 (.ints .i64 d4)⟩]) nv0 gv1)
  | [.int .i64 (nv0), .fn 67 0 [[(0, 1)], [(1, 1)], [(2, 1)]]], [⟨false, .flat 1 (.ints .i64 gv1)⟩, ⟨false, .avs [.slice true 3 0 gv2 .unk 1]⟩, ⟨false, .avs [.slice true 4 0 gv3 .unk 1]⟩, ⟨false, .hdr 5 gv4 gv5 gv6 gv7 none⟩, ⟨false, .hdr 6 gv8 gv9 gv10 gv11 none⟩, ⟨false, .flat 0 (.ints .i64 gv12)⟩, ⟨false, .flat 0 (.ints .i64 gv13)⟩], K => (Q56 N (fun d0 d1 d2 d3 d4 => K (.slice true 7 0 d0 .whole 1) [⟨false, .flat 1 (.ints .i64 gv1)⟩, ⟨false, .avs [.slice true 3 0 gv2 .unk 1]⟩, ⟨false, .avs [.slice true 4 0 gv3 .unk 1]⟩, ⟨false, .hdr 5 gv4 gv5 gv6 gv7 none⟩, ⟨false, .hdr 6 gv8 gv9 gv10 gv11 none⟩, ⟨false, .flat 0 (.ints .i64 gv12)⟩, ⟨false, .flat 0 (.ints .i64 gv13)⟩, ⟨true, .hdr 8 0 d1 d2 d3 none⟩, ⟨true, .flat 0 (.ints .i64 d4)⟩]) nv0 gv1 gv2 gv3 gv4 gv5 gv6 gv7 gv8 gv9 gv10 gv11 gv12 gv13)
  | [.int .i64 (nv0), .fn 68 0 [[(0, 1)]]], [⟨false, .flat 1 (.ints .i64 gv1)⟩], K => (Q59 N (fun d0 d1 d2 d3 d4 => K (.slice true 1 0 d0 .whole 1) [⟨false, .flat 1 (.ints .i64 gv1)⟩, ⟨true, .hdr 2 0 d1 d2 d3 none⟩, ⟨true, .flat 0 (.ints .i64 d4)⟩]) nv0 gv1)
  | [.int .i64 (nv0), .fn 69 0 []], [], K => (Q63 N (fun d0 d1 d2 d3 d4 => K (.slice true 0 0 d0 .whole 1) [⟨true, .hdr 1 0 d1 d2 d3 none⟩, ⟨true, .flat 0 (.ints .i64 d4)⟩]) nv0)
  | _, _, _ => none
theorem Q53.en_ok (N : Nat) (hE : EnvOk (E57 N) ents) (ρ : Type) (args : List AV) (sh : Heap) (K : AV → Heap → Option ρ) (r : ρ) (h : Q53.en N ρ args sh K = some r) : ∃ v sh', K v sh' = some r ∧ FnOk (E57 N).P 65 args sh v sh' := by
  unfold Q53.en at h
  split at h
  · exact fn_ok hE (kp := Q53.kp) (N := N) Try.func65 (c := Q53.bd) (by kernel_rfl) ((Q53.eq N _ _ _).trans h)
  · exact fn_ok hE (kp := Q56.kp) (N := N) Try.func65 (c := Q56.bd) (by kernel_rfl) ((Q56.eq N _ _ _ _ _ _ _ _ _ _ _ _ _ _ _).trans h)
  · exact fn_ok hE (kp := Q59.kp) (N := N) Try.func65 (c := Q59.bd) (by kernel_rfl) ((Q59.eq N _ _ _).trans h)
  · exact fn_ok hE (kp := Q63.kp) (N := N) Try.func65 (c := Q63.bd) (by kernel_rfl) ((Q63.eq N _ _).trans h)
  · cases h
def E58 (N : Nat) : Env := (E57 N).add 65 (Q53.en N)
theorem E58_ok (N : Nat) : EnvOk (E58 N) ents := Env.add_ok (E57_ok N) (Q53.en_ok N (E57_ok N))
def Q54.kp : Keeps := ⟨[], [], []⟩
def Q54.bd : Code := bodyOf Try.f41
def Q54.fin {ρ : Type} (N : Nat) (K : AV → Heap → Option ρ) : XE → St → Option ρ := finK (E58 N) Q54.kp.fins Try.f41 [] K
theorem Q54.eq {ρ : Type} (N : Nat) (K : AV → Heap → Option ρ) (nv0 : Int) :
    xbody (E58 N) ents Q54.kp N Try.f41 Q54.bd [.int .i64 (nv0)] [] K = (Q54 N (fun d0 d1 d2 d3 d4 => K (.slice true 0 0 d0 .whole 1) [⟨true, .hdr 1 0 d1 d2 d3 none⟩, ⟨true, .flat 0 (.ints .i64 d4)⟩]) nv0) := by kernel_rfl
def Q54.en (N : Nat) (ρ : Type) : List AV → Heap → (AV → Heap → Option ρ) → Option ρ
  | [.int .i64 (nv0)], [], K => (Q54 N (fun d0 d1 d2 d3 d4 => K (.slice true 0 0 d0 .whole 1) [⟨true, .hdr 1 0 d1 d2 d3 none⟩, ⟨true, .flat 0 (.ints .i64 d4)⟩]) nv0)
  | _, _, _ => none
theorem Q54.en_ok (N : Nat) (hE : EnvOk (E58 N) ents) (ρ : Type) (args : List AV) (sh : Heap) (K : AV → Heap → Option ρ) (r : ρ) (h : Q54.en N ρ args sh K = some r) : ∃ v sh', K v sh' = some r ∧ FnOk (E58 N).P 41 args sh v sh' := by
  unfold Q54.en at h
  split at h
  · exact fn_ok hE (kp := Q54.kp) (N := N) Try.func41 (c := Q54.bd) (by kernel_rfl) ((Q54.eq N _ _).trans h)
  · cases h
def E59 (N : Nat) : Env := (E58 N).add 41 (Q54.en N)
theorem E59_ok (N : Nat) : EnvOk (E59 N) ents := Env.add_ok (E58_ok N) (Q54.en_ok N (E58_ok N))
def Q57.kp : Keeps := ⟨[], [], []⟩
def Q57.bd : Code := bodyOf Try.f42
def Q57.fin {ρ : Type} (N : Nat) (K : AV → Heap → Option ρ) (gv2 : Nat) (gv3 : Nat) (gv4 : Nat → Nat) (gv5 : Nat → Nat) (gv6 : Nat) (gv7 : Nat) (gv8 : Nat → Nat) (gv9 : Nat → Nat) (gv10 : Nat → Int) (gv11 : Nat → Int) : XE → St → Option ρ := finK (E59 N) Q57.kp.fins Try.f42 [⟨false, .hdr 2 gv2 gv3 gv4 gv5 none⟩, ⟨false, .hdr 3 gv6 gv7 gv8 gv9 none⟩, ⟨false, .flat 0 (.ints .i64 gv10)⟩, ⟨false, .flat 0 (.ints .i64 gv11)⟩] K
theorem Q57.eq {ρ : Type} (N : Nat) (K : AV → Heap → Option ρ) (av0 : Nat) (bv1 : Nat) (gv2 : Nat) (gv3 : Nat) (gv4 : Nat → Nat) (gv5 : Nat → Nat) (gv6 : Nat) (gv7 : Nat) (gv8 : Nat → Nat) (gv9 : Nat → Nat) (gv10 : Nat → Int) (gv11 : Nat → Int) :
    xbody (E59 N) ents Q57.kp N Try.f42 Q57.bd [.slice true 0 0 av0 .unk 1, .slice true 1 0 bv1 .unk 1] [⟨false, .hdr 2 gv2 gv3 gv4 gv5 none⟩, ⟨false, .hdr 3 gv6 gv7 gv8 gv9 none⟩, ⟨false, .flat 0 (.ints .i64 gv10)⟩, ⟨false, .flat 0 (.ints .i64 gv11)⟩] K = (Q57 N (fun d0 d1 d2 d3 d4 => K (.slice true 4 0 d0 .whole 1) [⟨false, .hdr 2 gv2 gv3 gv4 gv5 none⟩, ⟨false, .hdr 3 gv6 gv7 gv8 gv9 none⟩, ⟨false, .flat 0 (.ints .i64 gv10)⟩, ⟨false, .flat 0 (.ints .i64 gv11)⟩, ⟨true, .hdr 5 0 d1 d2 d3 none⟩, ⟨true, .flat 0 (.ints .i64 d4)⟩]) av0 bv1 gv2 gv3 gv4 gv5 gv6 gv7 gv8 gv9 gv10 gv11) := by kernel_rfl
def Q57.en (N : Nat) (ρ : Type) : List AV → Heap → (AV → Heap → Option ρ) → Option ρ
  | [.slice true 0 0 av0 .unk 1, .slice true 1 0 bv1 .unk 1], [⟨false, .hdr 2 gv2 gv3 gv4 gv5 none⟩, ⟨false, .hdr 3 gv6 gv7 gv8 gv9 none⟩, ⟨false, .flat 0 (.ints .i64 gv10)⟩, ⟨false, .flat 0 (.ints .i64 gv11)⟩], K => (Q57 N (fun d0 d1 d2 d3 d4 => K (.slice true 4 0 d0 .whole 1) [⟨false, .hdr 2 gv2 gv3 gv4 gv5 none⟩, ⟨false, .hdr 3 gv6 gv7 gv8 gv9 none⟩, ⟨false, .flat 0 (.ints .i64 gv10)⟩, ⟨false, .flat 0 (.ints .i64 gv11)⟩, ⟨true, .hdr 5 0 d1 d2 d3 none⟩, ⟨true, .flat 0 (.ints .i64 d4)⟩]) av0 bv1 gv2 gv3 gv4 gv5 gv6 gv7 gv8 gv9 gv10 gv11)
  | _, _, _ => none
theorem Q57.en_ok (N : Nat) (hE : EnvOk (E59 N) ents) (ρ : Type) (args : List AV) (sh : Heap) (K : AV → Heap → Option ρ) (r : ρ) (h : Q57.en N ρ args sh K = some r) : ∃ v sh', K v sh' = some r ∧ FnOk (E59 N).P 42 args sh v sh' := by
  unfold Q57.en at h
  split at h
  · exact fn_ok hE (kp := Q57.kp) (N := N) Try.func42 (c := Q57.bd) (by kernel_rfl) ((Q57.eq N _ _ _ _ _ _ _ _ _ _ _ _ _).trans h)
  · cases h
def E60 (N : Nat) : Env := (E59 N).add 42 (Q57.en N)
theorem E60_ok (N : Nat) : EnvOk (E60 N) ents := Env.add_ok (E59_ok N) (Q57.en_ok N (E59_ok N))
def Q60.kp : Keeps := ⟨[], [], []⟩
def Q60.bd : Code := bodyOf Try.f43
def Q60.fin {ρ : Type} (N : Nat) (K : AV → Heap → Option ρ) : XE → St → Option ρ := finK (E60 N) Q60.kp.fins Try.f43 [] K
theorem Q60.eq {ρ : Type} (N : Nat) (K : AV → Heap → Option ρ) (nv0 : Int) :
    xbody (E60 N) ents Q60.kp N Try.f43 Q60.bd [.int .i64 (nv0)] [] K = (Q60 N (fun d0 d1 d2 d3 d4 => K (.slice true 0 0 d0 .whole 1) [⟨true, .hdr 1 0 d1 d2 d3 none⟩, ⟨true, .flat 0 (.ints .i64 d4)⟩]) nv0) := by kernel_rfl
def Q60.en (N : Nat) (ρ : Type) : List AV → Heap → (AV → Heap → Option ρ) → Option ρ
  | [.int .i64 (nv0)], [], K => (Q60 N (fun d0 d1 d2 d3 d4 => K (.slice true 0 0 d0 .whole 1) [⟨true, .hdr 1 0 d1 d2 d3 none⟩, ⟨true, .flat 0 (.ints .i64 d4)⟩]) nv0)
  | _, _, _ => none
theorem Q60.en_ok (N : Nat) (hE : EnvOk (E60 N) ents) (ρ : Type) (args : List AV) (sh : Heap) (K : AV → Heap → Option ρ) (r : ρ) (h : Q60.en N ρ args sh K = some r) : ∃ v sh', K v sh' = some r ∧ FnOk (E60 N).P 43 args sh v sh' := by
  unfold Q60.en at h
  split at h
  · exact fn_ok hE (kp := Q60.kp) (N := N) Try.func43 (c := Q60.bd) (by kernel_rfl) ((Q60.eq N _ _).trans h)
  · cases h
def E61 (N : Nat) : Env := (E60 N).add 43 (Q60.en N)
theorem E61_ok (N : Nat) : EnvOk (E61 N) ents := Env.add_ok (E60_ok N) (Q60.en_ok N (E60_ok N))
def Q64.kp : Keeps := ⟨[], [], []⟩
def Q64.bd : Code := bodyOf Try.f44
def Q64.fin {ρ : Type} (N : Nat) (K : AV → Heap → Option ρ) : XE → St → Option ρ := finK (E61 N) Q64.kp.fins Try.f44 [] K
theorem Q64.eq {ρ : Type} (N : Nat) (K : AV → Heap → Option ρ) :
    xbody (E61 N) ents Q64.kp N Try.f44 Q64.bd [] [] K = (Q64 N (fun d0 d1 d2 d3 d4 => K (.slice true 0 0 d0 .whole 1) [⟨true, .hdr 1 0 d1 d2 d3 none⟩, ⟨true, .flat 0 (.ints .i64 d4)⟩])) := by kernel_rfl
def Q64.en (N : Nat) (ρ : Type) : List AV → Heap → (AV → Heap → Option ρ) → Option ρ
  | [], [], K => (Q64 N (fun d0 d1 d2 d3 d4 => K (.slice true 0 0 d0 .whole 1) [⟨true, .hdr 1 0 d1 d2 d3 none⟩, ⟨true, .flat 0 (.ints .i64 d4)⟩]))
  | _, _, _ => none
theorem Q64.en_ok (N : Nat) (hE : EnvOk (E61 N) ents) (ρ : Type) (args : List AV) (sh : Heap) (K : AV → Heap → Option ρ) (r : ρ) (h : Q64.en N ρ args sh K = some r) : ∃ v sh', K v sh' = some r ∧ FnOk (E61 N).P 44 args sh v sh' := by
  unfold Q64.en at h
  split at h
  · exact fn_ok hE (kp := Q64.kp) (N := N) Try.func44 (c := Q64.bd) (by kernel_rfl) ((Q64.eq N _ ).trans h)
  · cases h
def E62 (N : Nat) : Env := (E61 N).add 44 (Q64.en N)
theorem E62_ok (N : Nat) : EnvOk (E62 N) ents := Env.add_ok (E61_ok N) (Q64.en_ok N (E61_ok N))
def Q65.kp : Keeps := ⟨[], [], []⟩
def Q65.bd : Code := bodyOf Try.f17
def Q65.fin {ρ : Type} (N : Nat) (K : AV → Heap → Option ρ) : XE → St → Option ρ := finK (E62 N) Q65.kp.fins Try.f17 [] K
theorem Q65.eq {ρ : Type} (N : Nat) (K : AV → Heap → Option ρ) (name0 : ByteArray) :
    xbody (E62 N) ents Q65.kp N Try.f17 Q65.bd [.str (name0)] [] K = (Q65 N (fun d0 d1 d2 d3 d4 => K (.slice true 0 0 d0 .whole 1) [⟨true, .hdr 1 0 d1 d2 d3 none⟩, ⟨true, .flat 0 (.ints .i64 d4)⟩]) (K (.nils) []) name0) := by kernel_rfl
def Q65.en (N : Nat) (ρ : Type) : List AV → Heap → (AV → Heap → Option ρ) → Option ρ
  | [.str (name0)], [], K => (Q65 N (fun d0 d1 d2 d3 d4 => K (.slice true 0 0 d0 .whole 1) [⟨true, .hdr 1 0 d1 d2 d3 none⟩, ⟨true, .flat 0 (.ints .i64 d4)⟩]) (K (.nils) []) name0)
  | _, _, _ => none
theorem Q65.en_ok (N : Nat) (hE : EnvOk (E62 N) ents) (ρ : Type) (args : List AV) (sh : Heap) (K : AV → Heap → Option ρ) (r : ρ) (h : Q65.en N ρ args sh K = some r) : ∃ v sh', K v sh' = some r ∧ FnOk (E62 N).P 17 args sh v sh' := by
  unfold Q65.en at h
  split at h
  · exact fn_ok hE (kp := Q65.kp) (N := N) Try.func17 (c := Q65.bd) (by kernel_rfl) ((Q65.eq N _ _).trans h)
  · cases h
def E63 (N : Nat) : Env := (E62 N).add 17 (Q65.en N)
theorem E63_ok (N : Nat) : EnvOk (E63 N) ents := Env.add_ok (E62_ok N) (Q65.en_ok N (E62_ok N))
def Q66.kp : Keeps := ⟨[], [], []⟩
def Q66.bd : Code := bodyOf Try.f47
def Q66.fin {ρ : Type} (N : Nat) (K : AV → Heap → Option ρ) : XE → St → Option ρ := finK (E63 N) Q66.kp.fins Try.f47 [] K
theorem Q66.eq {ρ : Type} (N : Nat) (K : AV → Heap → Option ρ) (so0 : Bool) (code1 : Int) :
    xbody (E63 N) ents Q66.kp N Try.f47 Q66.bd [.bool (so0), .int .i64 (code1)] [] K = (Q66 N (fun d0 => K (.int .i64 (d0)) []) so0 code1) := by kernel_rfl
def Q66.en (N : Nat) (ρ : Type) : List AV → Heap → (AV → Heap → Option ρ) → Option ρ
  | [.bool (so0), .int .i64 (code1)], [], K => (Q66 N (fun d0 => K (.int .i64 (d0)) []) so0 code1)
  | _, _, _ => none
theorem Q66.en_ok (N : Nat) (hE : EnvOk (E63 N) ents) (ρ : Type) (args : List AV) (sh : Heap) (K : AV → Heap → Option ρ) (r : ρ) (h : Q66.en N ρ args sh K = some r) : ∃ v sh', K v sh' = some r ∧ FnOk (E63 N).P 47 args sh v sh' := by
  unfold Q66.en at h
  split at h
  · exact fn_ok hE (kp := Q66.kp) (N := N) Try.func47 (c := Q66.bd) (by kernel_rfl) ((Q66.eq N _ _ _).trans h)
  · cases h
def E64 (N : Nat) : Env := (E63 N).add 47 (Q66.en N)
theorem E64_ok (N : Nat) : EnvOk (E64 N) ents := Env.add_ok (E63_ok N) (Q66.en_ok N (E63_ok N))
def Q67.kp : Keeps := ⟨[], [], []⟩
def Q67.bd : Code := bodyOf Try.f85
def Q67.fin {ρ : Type} (N : Nat) (K : AV → Heap → Option ρ) (gv1 : Nat → Int) : XE → St → Option ρ := finK (E64 N) Q67.kp.fins Try.f85 [⟨false, .flat 1 (.ints .i64 gv1)⟩] K
theorem Q67.eq {ρ : Type} (N : Nat) (K : AV → Heap → Option ρ) (x0 : Int) (gv1 : Nat → Int) :
    xbody (E64 N) ents Q67.kp N Try.f85 Q67.bd [.int .i64 (x0), .sptr [(0, 1)]] [⟨false, .flat 1 (.ints .i64 gv1)⟩] K = (Q67 N (fun d0 => K (.bool (d0)) [⟨false, .flat 1 (.ints .i64 gv1)⟩]) x0 gv1) := by kernel_rfl
def Q67.en (N : Nat) (ρ : Type) : List AV → Heap → (AV → Heap → Option ρ) → Option ρ
  | [.int .i64 (x0), .sptr [(0, 1)]], [⟨false, .flat 1 (.ints .i64 gv1)⟩], K => (Q67 N (fun d0 => K (.bool (d0)) [⟨false, .flat 1 (.ints .i64 gv1)⟩]) x0 gv1)
  | _, _, _ => none
theorem Q67.en_ok (N : Nat) (hE : EnvOk (E64 N) ents) (ρ : Type) (args : List AV) (sh : Heap) (K : AV → Heap → Option ρ) (r : ρ) (h : Q67.en N ρ args sh K = some r) : ∃ v sh', K v sh' = some r ∧ FnOk (E64 N).P 85 args sh v sh' := by
  unfold Q67.en at h
  split at h
  · exact fn_ok hE (kp := Q67.kp) (N := N) Try.func85 (c := Q67.bd) (by kernel_rfl) ((Q67.eq N _ _ _).trans h)
  · cases h
def E65 (N : Nat) : Env := (E64 N).add 85 (Q67.en N)
theorem E65_ok (N : Nat) : EnvOk (E65 N) ents := Env.add_ok (E64_ok N) (Q67.en_ok N (E64_ok N))
def Q68.kp : Keeps := ⟨[(0, [0, 1, 7, 8], [], [])], [(0, [], [], [])], []⟩
def Q68.bd : Code := bodyOf Try.f86
def Q68.fin {ρ : Type} (N : Nat) (K : AV → Heap → Option ρ) (gv1 : Nat) (gv2 : Nat → Int) (gv3 : Nat → Int) : XE → St → Option ρ := finK (E65 N) Q68.kp.fins Try.f86 [⟨false, .flat gv1 (.ints .i64 gv2)⟩, ⟨false, .flat 1 (.ints .i64 gv3)⟩] K
def Q68.k0 {ρ : Type} (N : Nat) (K : AV → Heap → Option ρ) (gv1 : Nat) (gv2 : Nat → Int) (gv3 : Nat → Int) : XE → St → Option ρ := (blockK Q68.kp 2 0 (seqK (xcode (E65 N) ents Q68.kp 2 N (cB (cB Q68.bd)) 0) (Q68.fin N K gv1 gv2 gv3)))
theorem Q68.k0_mix {ρ : Type} (N : Nat) (K : AV → Heap → Option ρ) (gv1 : Nat) (gv2 : Nat → Int) (gv3 : Nat → Int) : mixK (Q68.fin N K gv1 gv2 gv3 .ret) (Q68.k0 N K gv1 gv2 gv3) = (Q68.k0 N K gv1 gv2 gv3) := by
  funext e s; cases e <;> kernel_rfl
def Q68.st0 (s0 : Nat) (gv1 : Nat) (gv2 : Nat → Int) (gv3 : Nat → Int) (x4 : Int) : St := ⟨sl 19 [(0, .slice false 0 0 s0 .unk 1), (1, .fn 85 0 [[(1, 1)]]), (7, .int .i64 ((s0 : Int))), (8, .int .i64 (x4))], [⟨false, .flat gv1 (.ints .i64 gv2)⟩, ⟨false, .flat 1 (.ints .i64 gv3)⟩]⟩
def Q68.sx0_0 (gv1 : Nat) (gv2 : Nat → Int) (gv3 : Nat → Int) : St := ⟨sl 19 [], [⟨false, .flat gv1 (.ints .i64 gv2)⟩, ⟨false, .flat 1 (.ints .i64 gv3)⟩]⟩
theorem Q68.b0_gen {ρ : Type} (N : Nat) (K : AV → Heap → Option ρ) (L0 : St → Option ρ) (kv : XE → St → Option ρ) (s0 : Nat) (gv1 : Nat) (gv2 : Nat → Int) (gv3 : Nat → Int) (x4 : Int) :
    xcode (E65 N) ents Q68.kp 2 N (cL (cK (cB (cA (cB Q68.bd))))) 0 (Q68.st0 s0 gv1 gv2 gv3 x4) (roundK Q68.kp 2 0 L0 (mixK (Q68.fin N K gv1 gv2 gv3 .ret) kv)) = (Q68.b0 N (fun d0 => K (.int .i64 (d0)) [⟨false, .flat gv1 (.ints .i64 gv2)⟩, ⟨false, .flat 1 (.ints .i64 gv3)⟩]) (fun x4 => L0 (Q68.st0 s0 gv1 gv2 gv3 x4)) (kv (.exit 0) (Q68.sx0_0 gv1 gv2 gv3)) s0 gv2 gv3 x4) := by kernel_rfl
theorem Q68.b0_eq {ρ : Type} (N : Nat) (K : AV → Heap → Option ρ) (L0 : St → Option ρ) (s0 : Nat) (gv1 : Nat) (gv2 : Nat → Int) (gv3 : Nat → Int) (x4 : Int) :
    xcode (E65 N) ents Q68.kp 2 N (cL (cK (cB (cA (cB Q68.bd))))) 0 (Q68.st0 s0 gv1 gv2 gv3 x4) (roundK Q68.kp 2 0 L0 (Q68.k0 N K gv1 gv2 gv3)) = (Q68.b0 N (fun d0 => K (.int .i64 (d0)) [⟨false, .flat gv1 (.ints .i64 gv2)⟩, ⟨false, .flat 1 (.ints .i64 gv3)⟩]) (fun x4 => L0 (Q68.st0 s0 gv1 gv2 gv3 x4)) ((Q68.k0 N K gv1 gv2 gv3) (.exit 0) (Q68.sx0_0 gv1 gv2 gv3)) s0 gv2 gv3 x4) := by
  have h := Q68.b0_gen N K L0 (Q68.k0 N K gv1 gv2 gv3) s0 gv1 gv2 gv3 x4
  rw [Q68.k0_mix] at h
  exact h
theorem Q68.a0_0_eq {ρ : Type} (N : Nat) (K : AV → Heap → Option ρ) (gv1 : Nat) (gv2 : Nat → Int) (gv3 : Nat → Int) :
    (Q68.k0 N K gv1 gv2 gv3) (.exit 0) (Q68.sx0_0 gv1 gv2 gv3) = (Q68.a0_0 N (fun d0 => K (.int .i64 (d0)) [⟨false, .flat gv1 (.ints .i64 gv2)⟩, ⟨false, .flat 1 (.ints .i64 gv3)⟩])) := by kernel_rfl
theorem Q68.l0_eq {ρ : Type} (N : Nat) (K : AV → Heap → Option ρ) (s0 : Nat) (gv1 : Nat) (gv2 : Nat → Int) (gv3 : Nat → Int) :
    ∀ (m : Nat) (x4 : Int), xloop (xcode (E65 N) ents Q68.kp 2 N (cL (cK (cB (cA (cB Q68.bd))))) 0) Q68.kp 2 0 m (Q68.st0 s0 gv1 gv2 gv3 x4) (Q68.k0 N K gv1 gv2 gv3) = (Q68.l0 N (fun d0 => K (.int .i64 (d0)) [⟨false, .flat gv1 (.ints .i64 gv2)⟩, ⟨false, .flat 1 (.ints .i64 gv3)⟩]) s0 gv2 gv3 ((Q68.k0 N K gv1 gv2 gv3) (.exit 0) (Q68.sx0_0 gv1 gv2 gv3)) m x4) := by
  intro m
  induction m with
  | zero => intros; rfl
  | succ m ih =>
    intro x4
    refine (Q68.b0_eq N K (fun s => xloop (xcode (E65 N) ents Q68.kp 2 N (cL (cK (cB (cA (cB Q68.bd))))) 0) Q68.kp 2 0 m s (Q68.k0 N K gv1 gv2 gv3)) s0 gv1 gv2 gv3 x4).trans ?_
    simp only [ih]
    kernel_rfl
theorem Q68.s_eq {ρ : Type} (N : Nat) (K : AV → Heap → Option ρ) (s0 : Nat) (gv1 : Nat) (gv2 : Nat → Int) (gv3 : Nat → Int) :
    xbody (E65 N) ents Q68.kp N Try.f86 Q68.bd [.slice false 0 0 s0 .unk 1, .fn 85 0 [[(1, 1)]]] [⟨false, .flat gv1 (.ints .i64 gv2)⟩, ⟨false, .flat 1 (.ints .i64 gv3)⟩] K = (Q68.s N (fun d0 => K (.int .i64 (d0)) [⟨false, .flat gv1 (.ints .i64 gv2)⟩, ⟨false, .flat 1 (.ints .i64 gv3)⟩]) (fun x4 => xloop (xcode (E65 N) ents Q68.kp 2 N (cL (cK (cB (cA (cB Q68.bd))))) 0) Q68.kp 2 0 N (Q68.st0 s0 gv1 gv2 gv3 x4) (Q68.k0 N K gv1 gv2 gv3))) := by kernel_rfl
theorem Q68.eq {ρ : Type} (N : Nat) (K : AV → Heap → Option ρ) (s0 : Nat) (gv1 : Nat) (gv2 : Nat → Int) (gv3 : Nat → Int) :
    xbody (E65 N) ents Q68.kp N Try.f86 Q68.bd [.slice false 0 0 s0 .unk 1, .fn 85 0 [[(1, 1)]]] [⟨false, .flat gv1 (.ints .i64 gv2)⟩, ⟨false, .flat 1 (.ints .i64 gv3)⟩] K = (Q68 N (fun d0 => K (.int .i64 (d0)) [⟨false, .flat gv1 (.ints .i64 gv2)⟩, ⟨false, .flat 1 (.ints .i64 gv3)⟩]) s0 gv1 gv2 gv3) := by
  refine (Q68.s_eq N K s0 gv1 gv2 gv3).trans ?_
  simp only [Q68.l0_eq, Q68.a0_0_eq]
  kernel_rfl
def Q68.en (N : Nat) (ρ : Type) : List AV → Heap → (AV → Heap → Option ρ) → Option ρ
  | [.slice false 0 0 s0 .unk 1, .fn 85 0 [[(1, 1)]]], [⟨false, .flat gv1 (.ints .i64 gv2)⟩, ⟨false, .flat 1 (.ints .i64 gv3)⟩], K => (Q68 N (fun d0 => K (.int .i64 (d0)) [⟨false, .flat gv1 (.ints .i64 gv2)⟩, ⟨false, .flat 1 (.ints .i64 gv3)⟩]) s0 gv1 gv2 gv3)
  | _, _, _ => none
theorem Q68.en_ok (N : Nat) (hE : EnvOk (E65 N) ents) (ρ : Type) (args : List AV) (sh : Heap) (K : AV → Heap → Option ρ) (r : ρ) (h : Q68.en N ρ args sh K = some r) : ∃ v sh', K v sh' = some r ∧ FnOk (E65 N).P 86 args sh v sh' := by
  unfold Q68.en at h
  split at h
  · exact fn_ok hE (kp := Q68.kp) (N := N) Try.func86 (c := Q68.bd) (by kernel_rfl) ((Q68.eq N _ _ _ _ _).trans h)
  · cases h
def E66 (N : Nat) : Env := (E65 N).add 86 (Q68.en N)
theorem E66_ok (N : Nat) : EnvOk (E66 N) ents := Env.add_ok (E65_ok N) (Q68.en_ok N (E65_ok N))
def Q69.kp : Keeps := ⟨[], [], []⟩
def Q69.bd : Code := bodyOf Try.f84
def Q69.fin {ρ : Type} (N : Nat) (K : AV → Heap → Option ρ) (gv1 : Nat) (gv2 : Nat → Int) (gv3 : Nat → Int) : XE → St → Option ρ := finK (E66 N) Q69.kp.fins Try.f84 [⟨false, .flat gv1 (.ints .i64 gv2)⟩, ⟨false, .flat 1 (.ints .i64 gv3)⟩] K
theorem Q69.eq {ρ : Type} (N : Nat) (K : AV → Heap → Option ρ) (s0 : Nat) (gv1 : Nat) (gv2 : Nat → Int) (gv3 : Nat → Int) :
    xbody (E66 N) ents Q69.kp N Try.f84 Q69.bd [.slice false 0 0 s0 .unk 1, .fn 85 0 [[(1, 1)]]] [⟨false, .flat gv1 (.ints .i64 gv2)⟩, ⟨false, .flat 1 (.ints .i64 gv3)⟩] K = (Q69 N (fun d0 => K (.bool (d0)) [⟨false, .flat gv1 (.ints .i64 gv2)⟩, ⟨false, .flat 1 (.ints .i64 gv3)⟩]) s0 gv1 gv2 gv3) := by kernel_rfl
def Q69.en (N : Nat) (ρ : Type) : List AV → Heap → (AV → Heap → Option ρ) → Option ρ
  | [.slice false 0 0 s0 .unk 1, .fn 85 0 [[(1, 1)]]], [⟨false, .flat gv1 (.ints .i64 gv2)⟩, ⟨false, .flat 1 (.ints .i64 gv3)⟩], K => (Q69 N (fun d0 => K (.bool (d0)) [⟨false, .flat gv1 (.ints .i64 gv2)⟩, ⟨false, .flat 1 (.ints .i64 gv3)⟩]) s0 gv1 gv2 gv3)
  | _, _, _ => none
theorem Q69.en_ok (N : Nat) (hE : EnvOk (E66 N) ents) (ρ : Type) (args : List AV) (sh : Heap) (K : AV → Heap → Option ρ) (r : ρ) (h : Q69.en N ρ args sh K = some r) : ∃ v sh', K v sh' = some r ∧ FnOk (E66 N).P 84 args sh v sh' := by
  unfold Q69.en at h
  split at h
  · exact fn_ok hE (kp := Q69.kp) (N := N) Try.func84 (c := Q69.bd) (by kernel_rfl) ((Q69.eq N _ _ _ _ _).trans h)
  · cases h
def E67 (N : Nat) : Env := (E66 N).add 84 (Q69.en N)
theorem E67_ok (N : Nat) : EnvOk (E67 N) ents := Env.add_ok (E66_ok N) (Q69.en_ok N (E66_ok N))
def Q70.kp : Keeps := ⟨[(0, [3, 11, 12, 13], [], [])], [(0, [], [], [])], []⟩
def Q70.bd : Code := bodyOf Try.f74
def Q70.fin {ρ : Type} (N : Nat) (K : AV → Heap → Option ρ) (gv1 : Nat) (gv2 : Nat) (gv3 : Nat → Nat) (gv4 : Nat → Nat) (gv5 : Nat → Int) : XE → St → Option ρ := finK (E67 N) Q70.kp.fins Try.f74 [⟨false, .hdr 1 gv1 gv2 gv3 gv4 none⟩, ⟨false, .flat 0 (.ints .i64 gv5)⟩] K
def Q70.k0 {ρ : Type} (N : Nat) (K : AV → Heap → Option ρ) (gv1 : Nat) (gv2 : Nat) (gv3 : Nat → Nat) (gv4 : Nat → Nat) (gv5 : Nat → Int) : XE → St → Option ρ := (blockK Q70.kp 2 0 (seqK (xcode (E67 N) ents Q70.kp 2 N (cB (cB (cB (cB Q70.bd)))) 0) (Q70.fin N K gv1 gv2 gv3 gv4 gv5)))
theorem Q70.k0_mix {ρ : Type} (N : Nat) (K : AV → Heap → Option ρ) (gv1 : Nat) (gv2 : Nat) (gv3 : Nat → Nat) (gv4 : Nat → Nat) (gv5 : Nat → Int) : mixK (Q70.fin N K gv1 gv2 gv3 gv4 gv5 .ret) (Q70.k0 N K gv1 gv2 gv3 gv4 gv5) = (Q70.k0 N K gv1 gv2 gv3 gv4 gv5) := by
  funext e s; cases e <;> kernel_rfl
def Q70.st0 (table0 : Nat) (gv1 : Nat) (gv2 : Nat) (gv3 : Nat → Nat) (gv4 : Nat → Nat) (gv5 : Nat → Int) (x7 : Int) : St := ⟨sl 27 [(3, .sptr [(2, 1)]), (11, .slice true 0 0 table0 .unk 1), (12, .int .i64 ((table0 : Int))), (13, .int .i64 (x7))], [⟨false, .hdr 1 gv1 gv2 gv3 gv4 none⟩, ⟨false, .flat 0 (.ints .i64 gv5)⟩, ⟨true, .flat 1 (.ints .i64 (fun _ => (table0 : Int)))⟩]⟩
def Q70.sx0_0 (gv1 : Nat) (gv2 : Nat) (gv3 : Nat → Nat) (gv4 : Nat → Nat) (gv5 : Nat → Int) : St := ⟨sl 27 [], [⟨false, .hdr 1 gv1 gv2 gv3 gv4 none⟩, ⟨false, .flat 0 (.ints .i64 gv5)⟩]⟩
theorem Q70.b0_gen {ρ : Type} (N : Nat) (K : AV → Heap → Option ρ) (L0 : St → Option ρ) (kv : XE → St → Option ρ) (table0 : Nat) (gv1 : Nat) (gv2 : Nat) (gv3 : Nat → Nat) (gv4 : Nat → Nat) (gv5 : Nat → Int) (x7 : Int) :
    xcode (E67 N) ents Q70.kp 2 N (cL (cK (cB (cA (cB (cB (cB Q70.bd))))))) 0 (Q70.st0 table0 gv1 gv2 gv3 gv4 gv5 x7) (roundK Q70.kp 2 0 L0 (mixK (Q70.fin N K gv1 gv2 gv3 gv4 gv5 .ret) kv)) = (Q70.b0 N (fun d0 => K (.bool (d0)) [⟨false, .hdr 1 gv1 gv2 gv3 gv4 none⟩, ⟨false, .flat 0 (.ints .i64 gv5)⟩]) (fun x7 => L0 (Q70.st0 table0 gv1 gv2 gv3 gv4 gv5 x7)) (kv (.exit 0) (Q70.sx0_0 gv1 gv2 gv3 gv4 gv5)) table0 gv3 gv4 gv5 x7) := by kernel_rfl
theorem Q70.b0_eq {ρ : Type} (N : Nat) (K : AV → Heap → Option ρ) (L0 : St → Option ρ) (table0 : Nat) (gv1 : Nat) (gv2 : Nat) (gv3 : Nat → Nat) (gv4 : Nat → Nat) (gv5 : Nat → Int) (x7 : Int) :
    xcode (E67 N) ents Q70.kp 2 N (cL (cK (cB (cA (cB (cB (cB Q70.bd))))))) 0 (Q70.st0 table0 gv1 gv2 gv3 gv4 gv5 x7) (roundK Q70.kp 2 0 L0 (Q70.k0 N K gv1 gv2 gv3 gv4 gv5)) = (Q70.b0 N (fun d0 => K (.bool (d0)) [⟨false, .hdr 1 gv1 gv2 gv3 gv4 none⟩, ⟨false, .flat 0 (.ints .i64 gv5)⟩]) (fun x7 => L0 (Q70.st0 table0 gv1 gv2 gv3 gv4 gv5 x7)) ((Q70.k0 N K gv1 gv2 gv3 gv4 gv5) (.exit 0) (Q70.sx0_0 gv1 gv2 gv3 gv4 gv5)) table0 gv3 gv4 gv5 x7) := by
  have h := Q70.b0_gen N K L0 (Q70.k0 N K gv1 gv2 gv3 gv4 gv5) table0 gv1 gv2 gv3 gv4 gv5 x7
  rw [Q70.k0_mix] at h
  exact h
theorem Q70.a0_0_eq {ρ : Type} (N : Nat) (K : AV → Heap → Option ρ) (gv1 : Nat) (gv2 : Nat) (gv3 : Nat → Nat) (gv4 : Nat → Nat) (gv5 : Nat → Int) :
    (Q70.k0 N K gv1 gv2 gv3 gv4 gv5) (.exit 0) (Q70.sx0_0 gv1 gv2 gv3 gv4 gv5) = (Q70.a0_0 N (fun d0 => K (.bool (d0)) [⟨false, .hdr 1 gv1 gv2 gv3 gv4 none⟩, ⟨false, .flat 0 (.ints .i64 gv5)⟩])) := by kernel_rfl
theorem Q70.l0_eq {ρ : Type} (N : Nat) (K : AV → Heap → Option ρ) (table0 : Nat) (gv1 : Nat) (gv2 : Nat) (gv3 : Nat → Nat) (gv4 : Nat → Nat) (gv5 : Nat → Int) :
    ∀ (m : Nat) (x7 : Int), xloop (xcode (E67 N) ents Q70.kp 2 N (cL (cK (cB (cA (cB (cB (cB Q70.bd))))))) 0) Q70.kp 2 0 m (Q70.st0 table0 gv1 gv2 gv3 gv4 gv5 x7) (Q70.k0 N K gv1 gv2 gv3 gv4 gv5) = (Q70.l0 N (fun d0 => K (.bool (d0)) [⟨false, .hdr 1 gv1 gv2 gv3 gv4 none⟩, ⟨false, .flat 0 (.ints .i64 gv5)⟩]) table0 gv3 gv4 gv5 ((Q70.k0 N K gv1 gv2 gv3 gv4 gv5) (.exit 0) (Q70.sx0_0 gv1 gv2 gv3 gv4 gv5)) m x7) := by
  intro m
  induction m with
  | zero => intros; rfl
  | succ m ih =>
    intro x7
    refine (Q70.b0_eq N K (fun s => xloop (xcode (E67 N) ents Q70.kp 2 N (cL (cK (cB (cA (cB (cB (cB Q70.bd))))))) 0) Q70.kp 2 0 m s (Q70.k0 N K gv1 gv2 gv3 gv4 gv5)) table0 gv1 gv2 gv3 gv4 gv5 x7).trans ?_
    simp only [ih]
    kernel_rfl
theorem Q70.s_eq {ρ : Type} (N : Nat) (K : AV → Heap → Option ρ) (table0 : Nat) (gv1 : Nat) (gv2 : Nat) (gv3 : Nat → Nat) (gv4 : Nat → Nat) (gv5 : Nat → Int) :
    xbody (E67 N) ents Q70.kp N Try.f74 Q70.bd [.slice true 0 0 table0 .unk 1] [⟨false, .hdr 1 gv1 gv2 gv3 gv4 none⟩, ⟨false, .flat 0 (.ints .i64 gv5)⟩] K = (Q70.s N (fun d0 => K (.bool (d0)) [⟨false, .hdr 1 gv1 gv2 gv3 gv4 none⟩, ⟨false, .flat 0 (.ints .i64 gv5)⟩]) (fun x7 => xloop (xcode (E67 N) ents Q70.kp 2 N (cL (cK (cB (cA (cB (cB (cB Q70.bd))))))) 0) Q70.kp 2 0 N (Q70.st0 table0 gv1 gv2 gv3 gv4 gv5 x7) (Q70.k0 N K gv1 gv2 gv3 gv4 gv5)) table0) := by kernel_rfl
theorem Q70.eq {ρ : Type} (N : Nat) (K : AV → Heap → Option ρ) (table0 : Nat) (gv1 : Nat) (gv2 : Nat) (gv3 : Nat → Nat) (gv4 : Nat → Nat) (gv5 : Nat → Int) :
    xbody (E67 N) ents Q70.kp N Try.f74 Q70.bd [.slice true 0 0 table0 .unk 1] [⟨false, .hdr 1 gv1 gv2 gv3 gv4 none⟩, ⟨false, .flat 0 (.ints .i64 gv5)⟩] K = (Q70 N (fun d0 => K (.bool (d0)) [⟨false, .hdr 1 gv1 gv2 gv3 gv4 none⟩, ⟨false, .flat 0 (.ints .i64 gv5)⟩]) table0 gv1 gv2 gv3 gv4 gv5) := by
  refine (Q70.s_eq N K table0 gv1 gv2 gv3 gv4 gv5).trans ?_
  simp only [Q70.l0_eq, Q70.a0_0_eq]
  kernel_rfl
def Q70.en (N : Nat) (ρ : Type) : List AV → Heap → (AV → Heap → Option ρ) → Option ρ
  | [.slice true 0 0 table0 .unk 1], [⟨false, .hdr 1 gv1 gv2 gv3 gv4 none⟩, ⟨false, .flat 0 (.ints .i64 gv5)⟩], K => (Q70 N (fun d0 => K (.bool (d0)) [⟨false, .hdr 1 gv1 gv2 gv3 gv4 none⟩, ⟨false, .flat 0 (.ints .i64 gv5)⟩]) table0 gv1 gv2 gv3 gv4 gv5)
  | _, _, _ => none
theorem Q70.en_ok (N : Nat) (hE : EnvOk (E67 N) ents) (ρ : Type) (args : List AV) (sh : Heap) (K : AV → Heap → Option ρ) (r : ρ) (h : Q70.en N ρ args sh K = some r) : ∃ v sh', K v sh' = some r ∧ FnOk (E67 N).P 74 args sh v sh' := by
  unfold Q70.en at h
  split at h
  · exact fn_ok hE (kp := Q70.kp) (N := N) Try.func74 (c := Q70.bd) (by kernel_rfl) ((Q70.eq N _ _ _ _ _ _ _).trans h)
  · cases h
def E68 (N : Nat) : Env := (E67 N).add 74 (Q70.en N)
theorem E68_ok (N : Nat) : EnvOk (E68 N) ents := Env.add_ok (E67_ok N) (Q70.en_ok N (E67_ok N))
def Q71.kp : Keeps := ⟨[(0, [0, 1, 7, 8], [], [])], [(0, [], [], [])], []⟩
def Q71.bd : Code := bodyOf Try.f76
def Q71.fin {ρ : Type} (N : Nat) (K : AV → Heap → Option ρ) (gv2 : Nat) (gv3 : Nat) (gv4 : Nat → Nat) (gv5 : Nat → Nat) (gv6 : Nat → Int) : XE → St → Option ρ := finK (E68 N) Q71.kp.fins Try.f76 [⟨false, .hdr 1 gv2 gv3 gv4 gv5 none⟩, ⟨false, .flat 0 (.ints .i64 gv6)⟩] K
def Q71.k0 {ρ : Type} (N : Nat) (K : AV → Heap → Option ρ) (gv2 : Nat) (gv3 : Nat) (gv4 : Nat → Nat) (gv5 : Nat → Nat) (gv6 : Nat → Int) : XE → St → Option ρ := (blockK Q71.kp 2 0 (seqK (xcode (E68 N) ents Q71.kp 2 N (cB (cB Q71.bd)) 0) (Q71.fin N K gv2 gv3 gv4 gv5 gv6)))
theorem Q71.k0_mix {ρ : Type} (N : Nat) (K : AV → Heap → Option ρ) (gv2 : Nat) (gv3 : Nat) (gv4 : Nat → Nat) (gv5 : Nat → Nat) (gv6 : Nat → Int) : mixK (Q71.fin N K gv2 gv3 gv4 gv5 gv6 .ret) (Q71.k0 N K gv2 gv3 gv4 gv5 gv6) = (Q71.k0 N K gv2 gv3 gv4 gv5 gv6) := by
  funext e s; cases e <;> kernel_rfl
def Q71.st0 (table0 : Nat) (i1 : Int) (gv2 : Nat) (gv3 : Nat) (gv4 : Nat → Nat) (gv5 : Nat → Nat) (gv6 : Nat → Int) (x7 : Int) : St := ⟨sl 31 [(0, .slice true 0 0 table0 .unk 1), (1, .int .i64 (i1)), (7, .int .i64 ((table0 : Int))), (8, .int .i64 (x7))], [⟨false, .hdr 1 gv2 gv3 gv4 gv5 none⟩, ⟨false, .flat 0 (.ints .i64 gv6)⟩]⟩
def Q71.sx0_0 (gv2 : Nat) (gv3 : Nat) (gv4 : Nat → Nat) (gv5 : Nat → Nat) (gv6 : Nat → Int) : St := ⟨sl 31 [], [⟨false, .hdr 1 gv2 gv3 gv4 gv5 none⟩, ⟨false, .flat 0 (.ints .i64 gv6)⟩]⟩
theorem Q71.b0_gen {ρ : Type} (N : Nat) (K : AV → Heap → Option ρ) (L0 : St → Option ρ) (kv : XE → St → Option ρ) (table0 : Nat) (i1 : Int) (gv2 : Nat) (gv3 : Nat) (gv4 : Nat → Nat) (gv5 : Nat → Nat) (gv6 : Nat → Int) (x7 : Int) :
    xcode (E68 N) ents Q71.kp 2 N (cL (cK (cB (cA (cB Q71.bd))))) 0 (Q71.st0 table0 i1 gv2 gv3 gv4 gv5 gv6 x7) (roundK Q71.kp 2 0 L0 (mixK (Q71.fin N K gv2 gv3 gv4 gv5 gv6 .ret) kv)) = (Q71.b0 N (fun d0 => K (.int .i64 (d0)) [⟨false, .hdr 1 gv2 gv3 gv4 gv5 none⟩, ⟨false, .flat 0 (.ints .i64 gv6)⟩]) (fun x7 => L0 (Q71.st0 table0 i1 gv2 gv3 gv4 gv5 gv6 x7)) (kv (.exit 0) (Q71.sx0_0 gv2 gv3 gv4 gv5 gv6)) table0 i1 gv4 gv5 gv6 x7) := by kernel_rfl
theorem Q71.b0_eq {ρ : Type} (N : Nat) (K : AV → Heap → Option ρ) (L0 : St → Option ρ) (table0 : Nat) (i1 : Int) (gv2 : Nat) (gv3 : Nat) (gv4 : Nat → Nat) (gv5 : Nat → Nat) (gv6 : Nat → Int) (x7 : Int) :
    xcode (E68 N) ents Q71.kp 2 N (cL (cK (cB (cA (cB Q71.bd))))) 0 (Q71.st0 table0 i1 gv2 gv3 gv4 gv5 gv6 x7) (roundK Q71.kp 2 0 L0 (Q71.k0 N K gv2 gv3 gv4 gv5 gv6)) = (Q71.b0 N (fun d0 => K (.int .i64 (d0)) [⟨false, .hdr 1 gv2 gv3 gv4 gv5 none⟩, ⟨false, .flat 0 (.ints .i64 gv6)⟩]) (fun x7 => L0 (Q71.st0 table0 i1 gv2 gv3 gv4 gv5 gv6 x7)) ((Q71.k0 N K gv2 gv3 gv4 gv5 gv6) (.exit 0) (Q71.sx0_0 gv2 gv3 gv4 gv5 gv6)) table0 i1 gv4 gv5 gv6 x7) := by
  have h := Q71.b0_gen N K L0 (Q71.k0 N K gv2 gv3 gv4 gv5 gv6) table0 i1 gv2 gv3 gv4 gv5 gv6 x7
  rw [Q71.k0_mix] at h
  exact h
theorem Q71.a0_0_eq {ρ : Type} (N : Nat) (K : AV → Heap → Option ρ) (gv2 : Nat) (gv3 : Nat) (gv4 : Nat → Nat) (gv5 : Nat → Nat) (gv6 : Nat → Int) :
    (Q71.k0 N K gv2 gv3 gv4 gv5 gv6) (.exit 0) (Q71.sx0_0 gv2 gv3 gv4 gv5 gv6) = (Q71.a0_0 N (fun d0 => K (.int .i64 (d0)) [⟨false, .hdr 1 gv2 gv3 gv4 gv5 none⟩, ⟨false, .flat 0 (.ints .i64 gv6)⟩])) := by kernel_rfl
theorem Q71.l0_eq {ρ : Type} (N : Nat) (K : AV → Heap → Option ρ) (table0 : Nat) (i1 : Int) (gv2 : Nat) (gv3 : Nat) (gv4 : Nat → Nat) (gv5 : Nat → Nat) (gv6 : Nat → Int) :
    ∀ (m : Nat) (x7 : Int), xloop (xcode (E68 N) ents Q71.kp 2 N (cL (cK (cB (cA (cB Q71.bd))))) 0) Q71.kp 2 0 m (Q71.st0 table0 i1 gv2 gv3 gv4 gv5 gv6 x7) (Q71.k0 N K gv2 gv3 gv4 gv5 gv6) = (Q71.l0 N (fun d0 => K (.int .i64 (d0)) [⟨false, .hdr 1 gv2 gv3 gv4 gv5 none⟩, ⟨false, .flat 0 (.ints .i64 gv6)⟩]) table0 i1 gv4 gv5 gv6 ((Q71.k0 N K gv2 gv3 gv4 gv5 gv6) (.exit 0) (Q71.sx0_0 gv2 gv3 gv4 gv5 gv6)) m x7) := by
  intro m
  induction m with
  | zero => intros; rfl
  | succ m ih =>
    intro x7
    refine (Q71.b0_eq N K (fun s => xloop (xcode (E68 N) ents Q71.kp 2 N (cL (cK (cB (cA (cB Q71.bd))))) 0) Q71.kp 2 0 m s (Q71.k0 N K gv2 gv3 gv4 gv5 gv6)) table0 i1 gv2 gv3 gv4 gv5 gv6 x7).trans ?_
    simp only [ih]
    kernel_rfl
theorem Q71.s_eq {ρ : Type} (N : Nat) (K : AV → Heap → Option ρ) (table0 : Nat) (i1 : Int) (gv2 : Nat) (gv3 : Nat) (gv4 : Nat → Nat) (gv5 : Nat → Nat) (gv6 : Nat → Int) :
    xbody (E68 N) ents Q71.kp N Try.f76 Q71.bd [.slice true 0 0 table0 .unk 1, .int .i64 (i1)] [⟨false, .hdr 1 gv2 gv3 gv4 gv5 none⟩, ⟨false, .flat 0 (.ints .i64 gv6)⟩] K = (Q71.s N (fun d0 => K (.int .i64 (d0)) [⟨false, .hdr 1 gv2 gv3 gv4 gv5 none⟩, ⟨false, .flat 0 (.ints .i64 gv6)⟩]) (fun x7 => xloop (xcode (E68 N) ents Q71.kp 2 N (cL (cK (cB (cA (cB Q71.bd))))) 0) Q71.kp 2 0 N (Q71.st0 table0 i1 gv2 gv3 gv4 gv5 gv6 x7) (Q71.k0 N K gv2 gv3 gv4 gv5 gv6))) := by kernel_rfl
theorem Q71.eq {ρ : Type} (N : Nat) (K : AV → Heap → Option ρ) (table0 : Nat) (i1 : Int) (gv2 : Nat) (gv3 : Nat) (gv4 : Nat → Nat) (gv5 : Nat → Nat) (gv6 : Nat → Int) :
    xbody (E68 N) ents Q71.kp N Try.f76 Q71.bd [.slice true 0 0 table0 .unk 1, .int .i64 (i1)] [⟨false, .hdr 1 gv2 gv3 gv4 gv5 none⟩, ⟨false, .flat 0 (.ints .i64 gv6)⟩] K = (Q71 N (fun d0 => K (.int .i64 (d0)) [⟨false, .hdr 1 gv2 gv3 gv4 gv5 none⟩, ⟨false, .flat 0 (.ints .i64 gv6)⟩]) table0 i1 gv2 gv3 gv4 gv5 gv6) := by
  refine (Q71.s_eq N K table0 i1 gv2 gv3 gv4 gv5 gv6).trans ?_
  simp only [Q71.l0_eq, Q71.a0_0_eq]
  kernel_rfl
def Q71.en (N : Nat) (ρ : Type) : List AV → Heap → (AV → Heap → Option ρ) → Option ρ
  | [.slice true 0 0 table0 .unk 1, .int .i64 (i1)], [⟨false, .hdr 1 gv2 gv3 gv4 gv5 none⟩, ⟨false, .flat 0 (.ints .i64 gv6)⟩], K => (Q71 N (fun d0 => K (.int .i64 (d0)) [⟨false, .hdr 1 gv2 gv3 gv4 gv5 none⟩, ⟨false, .flat 0 (.ints .i64 gv6)⟩]) table0 i1 gv2 gv3 gv4 gv5 gv6)
  | _, _, _ => none
theorem Q71.en_ok (N : Nat) (hE : EnvOk (E68 N) ents) (ρ : Type) (args : List AV) (sh : Heap) (K : AV → Heap → Option ρ) (r : ρ) (h : Q71.en N ρ args sh K = some r) : ∃ v sh', K v sh' = some r ∧ FnOk (E68 N).P 76 args sh v sh' := by
  unfold Q71.en at h
  split at h
  · exact fn_ok hE (kp := Q71.kp) (N := N) Try.func76 (c := Q71.bd) (by kernel_rfl) ((Q71.eq N _ _ _ _ _ _ _ _).trans h)
  · cases h
def E69 (N : Nat) : Env := (E68 N).add 76 (Q71.en N)
theorem E69_ok (N : Nat) : EnvOk (E69 N) ents := Env.add_ok (E68_ok N) (Q71.en_ok N (E68_ok N))
def Q72.kp : Keeps := ⟨[(0, [0, 1, 26, 27], [], []), (2, [0, 1, 5, 26, 27, 31, 32], [], [])], [(0, [0, 1], [], []), (2, [0, 1, 26, 27], [], [])], []⟩
def Q72.bd : Code := bodyOf Try.f75
def Q72.fin {ρ : Type} (N : Nat) (K : AV → Heap → Option ρ) (gv2 : Nat) (gv3 : Nat) (gv4 : Nat → Nat) (gv5 : Nat → Nat) (gv6 : Nat → Int) : XE → St → Option ρ := finK (E69 N) Q72.kp.fins Try.f75 [⟨false, .hdr 1 gv2 gv3 gv4 gv5 none⟩, ⟨false, .flat 0 (.ints .i64 gv6)⟩] K
def Q72.k0 {ρ : Type} (N : Nat) (K : AV → Heap → Option ρ) (gv2 : Nat) (gv3 : Nat) (gv4 : Nat → Nat) (gv5 : Nat → Nat) (gv6 : Nat → Int) : XE → St → Option ρ := (blockK Q72.kp 2 0 (seqK (xcode (E69 N) ents Q72.kp 2 N (cB (cB (cB Q72.bd))) 0) (Q72.fin N K gv2 gv3 gv4 gv5 gv6)))
theorem Q72.k0_mix {ρ : Type} (N : Nat) (K : AV → Heap → Option ρ) (gv2 : Nat) (gv3 : Nat) (gv4 : Nat → Nat) (gv5 : Nat → Nat) (gv6 : Nat → Int) : mixK (Q72.fin N K gv2 gv3 gv4 gv5 gv6 .ret) (Q72.k0 N K gv2 gv3 gv4 gv5 gv6) = (Q72.k0 N K gv2 gv3 gv4 gv5 gv6) := by
  funext e s; cases e <;> kernel_rfl
def Q72.st0 (table0 : Nat) (i1 : Int) (gv2 : Nat) (gv3 : Nat) (gv4 : Nat → Nat) (gv5 : Nat → Nat) (gv6 : Nat → Int) (x7 : Int) : St := ⟨sl 68 [(0, .slice true 0 0 table0 .unk 1), (1, .int .i64 (i1)), (26, .int .i64 ((table0 : Int))), (27, .int .i64 (x7))], [⟨false, .hdr 1 gv2 gv3 gv4 gv5 none⟩, ⟨false, .flat 0 (.ints .i64 gv6)⟩]⟩
def Q72.sx0_0 (table0 : Nat) (i1 : Int) (gv2 : Nat) (gv3 : Nat) (gv4 : Nat → Nat) (gv5 : Nat → Nat) (gv6 : Nat → Int) : St := ⟨sl 68 [(0, .slice true 0 0 table0 .unk 1), (1, .int .i64 (i1))], [⟨false, .hdr 1 gv2 gv3 gv4 gv5 none⟩, ⟨false, .flat 0 (.ints .i64 gv6)⟩]⟩
def Q72.k1g {ρ : Type} (N : Nat) (L0 : St → Option ρ) (kv : XE → St → Option ρ) : XE → St → Option ρ := (blockK Q72.kp 2 2 (blockK Q72.kp 2 1 (seqK (xcode (E69 N) ents Q72.kp 2 N (cB (cB (cB (cL (cK (cB (cA (cB (cB Q72.bd))))))))) 0) (roundK Q72.kp 2 0 L0 kv))))
theorem Q72.k1_mix {ρ : Type} (N : Nat) (K : AV → Heap → Option ρ) (L0 : St → Option ρ) (gv2 : Nat) (gv3 : Nat) (gv4 : Nat → Nat) (gv5 : Nat → Nat) (gv6 : Nat → Int) : mixK (Q72.fin N K gv2 gv3 gv4 gv5 gv6 .ret) (Q72.k1g N L0 (Q72.k0 N K gv2 gv3 gv4 gv5 gv6)) = (Q72.k1g N L0 (Q72.k0 N K gv2 gv3 gv4 gv5 gv6)) := by
  funext e s; cases e <;> kernel_rfl
def Q72.st1 (table0 : Nat) (i1 : Int) (gv2 : Nat) (gv3 : Nat) (gv4 : Nat → Nat) (gv5 : Nat → Nat) (gv6 : Nat → Int) (x7 : Int) (x8 : Int) : St := ⟨sl 68 [(0, .slice true 0 0 table0 .unk 1), (1, .int .i64 (i1)), (5, .int .i64 (x7)), (26, .int .i64 ((table0 : Int))), (27, .int .i64 (x7)), (31, .int .i64 ((table0 : Int))), (32, .int .i64 (x8))], [⟨false, .hdr 1 gv2 gv3 gv4 gv5 none⟩, ⟨false, .flat 0 (.ints .i64 gv6)⟩]⟩
def Q72.sx1_0 (table0 : Nat) (i1 : Int) (gv2 : Nat) (gv3 : Nat) (gv4 : Nat → Nat) (gv5 : Nat → Nat) (gv6 : Nat → Int) (x7 : Int) : St := ⟨sl 68 [(0, .slice true 0 0 table0 .unk 1), (1, .int .i64 (i1)), (26, .int .i64 ((table0 : Int))), (27, .int .i64 (x7))], [⟨false, .hdr 1 gv2 gv3 gv4 gv5 none⟩, ⟨false, .flat 0 (.ints .i64 gv6)⟩]⟩
theorem Q72.b1_gen {ρ : Type} (N : Nat) (K : AV → Heap → Option ρ) (L1 : St → Option ρ) (kv : XE → St → Option ρ) (table0 : Nat) (i1 : Int) (gv2 : Nat) (gv3 : Nat) (gv4 : Nat → Nat) (gv5 : Nat → Nat) (gv6 : Nat → Int) (x7 : Int) (x8 : Int) :
    xcode (E69 N) ents Q72.kp 2 N (cL (cK (cB (cB (cK (cA (cB (cB (cL (cK (cB (cA (cB (cB Q72.bd)))))))))))))) 2 (Q72.st1 table0 i1 gv2 gv3 gv4 gv5 gv6 x7 x8) (roundK Q72.kp 2 2 L1 (mixK (Q72.fin N K gv2 gv3 gv4 gv5 gv6 .ret) kv)) = (Q72.b1 N (fun d0 => K (.bool (d0)) [⟨false, .hdr 1 gv2 gv3 gv4 gv5 none⟩, ⟨false, .flat 0 (.ints .i64 gv6)⟩]) (fun x8 => L1 (Q72.st1 table0 i1 gv2 gv3 gv4 gv5 gv6 x7 x8)) (kv (.exit 2) (Q72.sx1_0 table0 i1 gv2 gv3 gv4 gv5 gv6 x7)) table0 i1 gv4 gv5 gv6 x7 x8) := by kernel_rfl
theorem Q72.b1_eq {ρ : Type} (N : Nat) (K : AV → Heap → Option ρ) (L0 : St → Option ρ) (L1 : St → Option ρ) (table0 : Nat) (i1 : Int) (gv2 : Nat) (gv3 : Nat) (gv4 : Nat → Nat) (gv5 : Nat → Nat) (gv6 : Nat → Int) (x7 : Int) (x8 : Int) :
    xcode (E69 N) ents Q72.kp 2 N (cL (cK (cB (cB (cK (cA (cB (cB (cL (cK (cB (cA (cB (cB Q72.bd)))))))))))))) 2 (Q72.st1 table0 i1 gv2 gv3 gv4 gv5 gv6 x7 x8) (roundK Q72.kp 2 2 L1 (Q72.k1g N L0 (Q72.k0 N K gv2 gv3 gv4 gv5 gv6))) = (Q72.b1 N (fun d0 => K (.bool (d0)) [⟨false, .hdr 1 gv2 gv3 gv4 gv5 none⟩, ⟨false, .flat 0 (.ints .i64 gv6)⟩]) (fun x8 => L1 (Q72.st1 table0 i1 gv2 gv3 gv4 gv5 gv6 x7 x8)) ((Q72.k1g N L0 (Q72.k0 N K gv2 gv3 gv4 gv5 gv6)) (.exit 2) (Q72.sx1_0 table0 i1 gv2 gv3 gv4 gv5 gv6 x7)) table0 i1 gv4 gv5 gv6 x7 x8) := by
  have h := Q72.b1_gen N K L1 (Q72.k1g N L0 (Q72.k0 N K gv2 gv3 gv4 gv5 gv6)) table0 i1 gv2 gv3 gv4 gv5 gv6 x7 x8
  rw [Q72.k1_mix] at h
  exact h
theorem Q72.a1_0_gen {ρ : Type} (N : Nat) (K : AV → Heap → Option ρ) (L0 : St → Option ρ) (kv : XE → St → Option ρ) (table0 : Nat) (i1 : Int) (gv2 : Nat) (gv3 : Nat) (gv4 : Nat → Nat) (gv5 : Nat → Nat) (gv6 : Nat → Int) (x7 : Int) :
    (Q72.k1g N L0 (mixK (Q72.fin N K gv2 gv3 gv4 gv5 gv6 .ret) kv)) (.exit 2) (Q72.sx1_0 table0 i1 gv2 gv3 gv4 gv5 gv6 x7) = (Q72.a1_0 N (fun d0 => K (.bool (d0)) [⟨false, .hdr 1 gv2 gv3 gv4 gv5 none⟩, ⟨false, .flat 0 (.ints .i64 gv6)⟩]) (fun x7 => L0 (Q72.st0 table0 i1 gv2 gv3 gv4 gv5 gv6 x7)) (kv (.exit 0) (Q72.sx0_0 table0 i1 gv2 gv3 gv4 gv5 gv6)) x7) := by kernel_rfl
theorem Q72.a1_0_eq {ρ : Type} (N : Nat) (K : AV → Heap → Option ρ) (L0 : St → Option ρ) (table0 : Nat) (i1 : Int) (gv2 : Nat) (gv3 : Nat) (gv4 : Nat → Nat) (gv5 : Nat → Nat) (gv6 : Nat → Int) (x7 : Int) :
    (Q72.k1g N L0 (Q72.k0 N K gv2 gv3 gv4 gv5 gv6)) (.exit 2) (Q72.sx1_0 table0 i1 gv2 gv3 gv4 gv5 gv6 x7) = (Q72.a1_0 N (fun d0 => K (.bool (d0)) [⟨false, .hdr 1 gv2 gv3 gv4 gv5 none⟩, ⟨false, .flat 0 (.ints .i64 gv6)⟩]) (fun x7 => L0 (Q72.st0 table0 i1 gv2 gv3 gv4 gv5 gv6 x7)) ((Q72.k0 N K gv2 gv3 gv4 gv5 gv6) (.exit 0) (Q72.sx0_0 table0 i1 gv2 gv3 gv4 gv5 gv6)) x7) := by
  have h := Q72.a1_0_gen N K L0 (Q72.k0 N K gv2 gv3 gv4 gv5 gv6) table0 i1 gv2 gv3 gv4 gv5 gv6 x7
  rw [Q72.k0_mix] at h
  exact h
theorem Q72.b0_gen {ρ : Type} (N : Nat) (K : AV → Heap → Option ρ) (L0 : St → Option ρ) (kv : XE → St → Option ρ) (table0 : Nat) (i1 : Int) (gv2 : Nat) (gv3 : Nat) (gv4 : Nat → Nat) (gv5 : Nat → Nat) (gv6 : Nat → Int) (x7 : Int) :
    xcode (E69 N) ents Q72.kp 2 N (cL (cK (cB (cA (cB (cB Q72.bd)))))) 0 (Q72.st0 table0 i1 gv2 gv3 gv4 gv5 gv6 x7) (roundK Q72.kp 2 0 L0 (mixK (Q72.fin N K gv2 gv3 gv4 gv5 gv6 .ret) kv)) = (Q72.b0 N (fun d0 => K (.bool (d0)) [⟨false, .hdr 1 gv2 gv3 gv4 gv5 none⟩, ⟨false, .flat 0 (.ints .i64 gv6)⟩]) (fun x8 => xloop (xcode (E69 N) ents Q72.kp 2 N (cL (cK (cB (cB (cK (cA (cB (cB (cL (cK (cB (cA (cB (cB Q72.bd)))))))))))))) 2) Q72.kp 2 2 N (Q72.st1 table0 i1 gv2 gv3 gv4 gv5 gv6 x7 x8) (Q72.k1g N L0 (mixK (Q72.fin N K gv2 gv3 gv4 gv5 gv6 .ret) kv))) (fun x7 => L0 (Q72.st0 table0 i1 gv2 gv3 gv4 gv5 gv6 x7)) (kv (.exit 0) (Q72.sx0_0 table0 i1 gv2 gv3 gv4 gv5 gv6)) table0 x7) := by kernel_rfl
theorem Q72.b0_eq {ρ : Type} (N : Nat) (K : AV → Heap → Option ρ) (L0 : St → Option ρ) (table0 : Nat) (i1 : Int) (gv2 : Nat) (gv3 : Nat) (gv4 : Nat → Nat) (gv5 : Nat → Nat) (gv6 : Nat → Int) (x7 : Int) :
    xcode (E69 N) ents Q72.kp 2 N (cL (cK (cB (cA (cB (cB Q72.bd)))))) 0 (Q72.st0 table0 i1 gv2 gv3 gv4 gv5 gv6 x7) (roundK Q72.kp 2 0 L0 (Q72.k0 N K gv2 gv3 gv4 gv5 gv6)) = (Q72.b0 N (fun d0 => K (.bool (d0)) [⟨false, .hdr 1 gv2 gv3 gv4 gv5 none⟩, ⟨false, .flat 0 (.ints .i64 gv6)⟩]) (fun x8 => xloop (xcode (E69 N) ents Q72.kp 2 N (cL (cK (cB (cB (cK (cA (cB (cB (cL (cK (cB (cA (cB (cB Q72.bd)))))))))))))) 2) Q72.kp 2 2 N (Q72.st1 table0 i1 gv2 gv3 gv4 gv5 gv6 x7 x8) (Q72.k1g N L0 (Q72.k0 N K gv2 gv3 gv4 gv5 gv6))) (fun x7 => L0 (Q72.st0 table0 i1 gv2 gv3 gv4 gv5 gv6 x7)) ((Q72.k0 N K gv2 gv3 gv4 gv5 gv6) (.exit 0) (Q72.sx0_0 table0 i1 gv2 gv3 gv4 gv5 gv6)) table0 x7) := by
  have h := Q72.b0_gen N K L0 (Q72.k0 N K gv2 gv3 gv4 gv5 gv6) table0 i1 gv2 gv3 gv4 gv5 gv6 x7
  rw [Q72.k0_mix] at h
  exact h
theorem Q72.a0_0_eq {ρ : Type} (N : Nat) (K : AV → Heap → Option ρ) (table0 : Nat) (i1 : Int) (gv2 : Nat) (gv3 : Nat) (gv4 : Nat → Nat) (gv5 : Nat → Nat) (gv6 : Nat → Int) :
    (Q72.k0 N K gv2 gv3 gv4 gv5 gv6) (.exit 0) (Q72.sx0_0 table0 i1 gv2 gv3 gv4 gv5 gv6) = (Q72.a0_0 N (fun d0 => K (.bool (d0)) [⟨false, .hdr 1 gv2 gv3 gv4 gv5 none⟩, ⟨false, .flat 0 (.ints .i64 gv6)⟩]) table0 i1 gv3 gv4 gv5 gv6) := by kernel_rfl
theorem Q72.l1_eq {ρ : Type} (N : Nat) (K : AV → Heap → Option ρ) (L0 : St → Option ρ) (table0 : Nat) (i1 : Int) (gv2 : Nat) (gv3 : Nat) (gv4 : Nat → Nat) (gv5 : Nat → Nat) (gv6 : Nat → Int) (x7 : Int) :
    ∀ (m : Nat) (x8 : Int), xloop (xcode (E69 N) ents Q72.kp 2 N (cL (cK (cB (cB (cK (cA (cB (cB (cL (cK (cB (cA (cB (cB Q72.bd)))))))))))))) 2) Q72.kp 2 2 m (Q72.st1 table0 i1 gv2 gv3 gv4 gv5 gv6 x7 x8) (Q72.k1g N L0 (Q72.k0 N K gv2 gv3 gv4 gv5 gv6)) = (Q72.l1 N (fun d0 => K (.bool (d0)) [⟨false, .hdr 1 gv2 gv3 gv4 gv5 none⟩, ⟨false, .flat 0 (.ints .i64 gv6)⟩]) table0 i1 gv4 gv5 gv6 x7 ((Q72.k1g N L0 (Q72.k0 N K gv2 gv3 gv4 gv5 gv6)) (.exit 2) (Q72.sx1_0 table0 i1 gv2 gv3 gv4 gv5 gv6 x7)) m x8) := by
  intro m
  induction m with
  | zero => intros; rfl
  | succ m ih =>
    intro x8
    refine (Q72.b1_eq N K L0 (fun s => xloop (xcode (E69 N) ents Q72.kp 2 N (cL (cK (cB (cB (cK (cA (cB (cB (cL (cK (cB (cA (cB (cB Q72.bd)))))))))))))) 2) Q72.kp 2 2 m s (Q72.k1g N L0 (Q72.k0 N K gv2 gv3 gv4 gv5 gv6))) table0 i1 gv2 gv3 gv4 gv5 gv6 x7 x8).trans ?_
    simp only [ih]
    kernel_rfl
theorem Q72.l0_eq {ρ : Type} (N : Nat) (K : AV → Heap → Option ρ) (table0 : Nat) (i1 : Int) (gv2 : Nat) (gv3 : Nat) (gv4 : Nat → Nat) (gv5 : Nat → Nat) (gv6 : Nat → Int) :
    ∀ (m : Nat) (x7 : Int), xloop (xcode (E69 N) ents Q72.kp 2 N (cL (cK (cB (cA (cB (cB Q72.bd)))))) 0) Q72.kp 2 0 m (Q72.st0 table0 i1 gv2 gv3 gv4 gv5 gv6 x7) (Q72.k0 N K gv2 gv3 gv4 gv5 gv6) = (Q72.l0 N (fun d0 => K (.bool (d0)) [⟨false, .hdr 1 gv2 gv3 gv4 gv5 none⟩, ⟨false, .flat 0 (.ints .i64 gv6)⟩]) table0 i1 gv4 gv5 gv6 ((Q72.k0 N K gv2 gv3 gv4 gv5 gv6) (.exit 0) (Q72.sx0_0 table0 i1 gv2 gv3 gv4 gv5 gv6)) m x7) := by
  intro m
  induction m with
  | zero => intros; rfl
  | succ m ih =>
    intro x7
    refine (Q72.b0_eq N K (fun s => xloop (xcode (E69 N) ents Q72.kp 2 N (cL (cK (cB (cA (cB (cB Q72.bd)))))) 0) Q72.kp 2 0 m s (Q72.k0 N K gv2 gv3 gv4 gv5 gv6)) table0 i1 gv2 gv3 gv4 gv5 gv6 x7).trans ?_
    simp only [ih, Q72.l1_eq, Q72.a1_0_eq]
    kernel_rfl
theorem Q72.s_eq {ρ : Type} (N : Nat) (K : AV → Heap → Option ρ) (table0 : Nat) (i1 : Int) (gv2 : Nat) (gv3 : Nat) (gv4 : Nat → Nat) (gv5 : Nat → Nat) (gv6 : Nat → Int) :
    xbody (E69 N) ents Q72.kp N Try.f75 Q72.bd [.slice true 0 0 table0 .unk 1, .int .i64 (i1)] [⟨false, .hdr 1 gv2 gv3 gv4 gv5 none⟩, ⟨false, .flat 0 (.ints .i64 gv6)⟩] K = (Q72.s N (fun d0 => K (.bool (d0)) [⟨false, .hdr 1 gv2 gv3 gv4 gv5 none⟩, ⟨false, .flat 0 (.ints .i64 gv6)⟩]) (fun x7 => xloop (xcode (E69 N) ents Q72.kp 2 N (cL (cK (cB (cA (cB (cB Q72.bd)))))) 0) Q72.kp 2 0 N (Q72.st0 table0 i1 gv2 gv3 gv4 gv5 gv6 x7) (Q72.k0 N K gv2 gv3 gv4 gv5 gv6)) table0 i1 gv4 gv5 gv6) := by kernel_rfl
theorem Q72.eq {ρ : Type} (N : Nat) (K : AV → Heap → Option ρ) (table0 : Nat) (i1 : Int) (gv2 : Nat) (gv3 : Nat) (gv4 : Nat → Nat) (gv5 : Nat → Nat) (gv6 : Nat → Int) :
    xbody (E69 N) ents Q72.kp N Try.f75 Q72.bd [.slice true 0 0 table0 .unk 1, .int .i64 (i1)] [⟨false, .hdr 1 gv2 gv3 gv4 gv5 none⟩, ⟨false, .flat 0 (.ints .i64 gv6)⟩] K = (Q72 N (fun d0 => K (.bool (d0)) [⟨false, .hdr 1 gv2 gv3 gv4 gv5 none⟩, ⟨false, .flat 0 (.ints .i64 gv6)⟩]) table0 i1 gv2 gv3 gv4 gv5 gv6) := by
  refine (Q72.s_eq N K table0 i1 gv2 gv3 gv4 gv5 gv6).trans ?_
  simp only [Q72.l0_eq, Q72.a0_0_eq]
  kernel_rfl
def Q72.en (N : Nat) (ρ : Type) : List AV → Heap → (AV → Heap → Option ρ) → Option ρ
  | [.slice true 0 0 table0 .unk 1, .int .i64 (i1)], [⟨false, .hdr 1 gv2 gv3 gv4 gv5 none⟩, ⟨false, .flat 0 (.ints .i64 gv6)⟩], K => (Q72 N (fun d0 => K (.bool (d0)) [⟨false, .hdr 1 gv2 gv3 gv4 gv5 none⟩, ⟨false, .flat 0 (.ints .i64 gv6)⟩]) table0 i1 gv2 gv3 gv4 gv5 gv6)
  | _, _, _ => none
theorem Q72.en_ok (N : Nat) (hE : EnvOk (E69 N) ents) (ρ : Type) (args : List AV) (sh : Heap) (K : AV → Heap → Option ρ) (r : ρ) (h : Q72.en N ρ args sh K = some r) : ∃ v sh', K v sh' = some r ∧ FnOk (E69 N).P 75 args sh v sh' := by
  unfold Q72.en at h
  split at h
  · exact fn_ok hE (kp := Q72.kp) (N := N) Try.func75 (c := Q72.bd) (by kernel_rfl) ((Q72.eq N _ _ _ _ _ _ _ _).trans h)
  · cases h
def E70 (N : Nat) : Env := (E69 N).add 75 (Q72.en N)
theorem E70_ok (N : Nat) : EnvOk (E70 N) ents := Env.add_ok (E69_ok N) (Q72.en_ok N (E69_ok N))
def Q73.kp : Keeps := ⟨[(0, [0, 8, 9], [], [])], [(0, [], [], [])], []⟩
def Q73.bd : Code := bodyOf Try.f48
def Q73.fin {ρ : Type} (N : Nat) (K : AV → Heap → Option ρ) (gv1 : Nat) (gv2 : Nat) (gv3 : Nat → Nat) (gv4 : Nat → Nat) (gv5 : Nat → Int) : XE → St → Option ρ := finK (E70 N) Q73.kp.fins Try.f48 [⟨false, .hdr 1 gv1 gv2 gv3 gv4 none⟩, ⟨false, .flat 0 (.ints .i64 gv5)⟩] K
def Q73.k0 {ρ : Type} (N : Nat) (K : AV → Heap → Option ρ) (gv1 : Nat) (gv2 : Nat) (gv3 : Nat → Nat) (gv4 : Nat → Nat) (gv5 : Nat → Int) : XE → St → Option ρ := (blockK Q73.kp 2 0 (seqK (xcode (E70 N) ents Q73.kp 2 N (cB (cB (cB Q73.bd))) 0) (Q73.fin N K gv1 gv2 gv3 gv4 gv5)))
theorem Q73.k0_mix {ρ : Type} (N : Nat) (K : AV → Heap → Option ρ) (gv1 : Nat) (gv2 : Nat) (gv3 : Nat → Nat) (gv4 : Nat → Nat) (gv5 : Nat → Int) : mixK (Q73.fin N K gv1 gv2 gv3 gv4 gv5 .ret) (Q73.k0 N K gv1 gv2 gv3 gv4 gv5) = (Q73.k0 N K gv1 gv2 gv3 gv4 gv5) := by
  funext e s; cases e <;> kernel_rfl
def Q73.st0 (table0 : Nat) (gv1 : Nat) (gv2 : Nat) (gv3 : Nat → Nat) (gv4 : Nat → Nat) (gv5 : Nat → Int) (x7 : Int) : St := ⟨sl 17 [(0, .slice true 0 0 table0 .unk 1), (8, .int .i64 ((table0 : Int))), (9, .int .i64 (x7))], [⟨false, .hdr 1 gv1 gv2 gv3 gv4 none⟩, ⟨false, .flat 0 (.ints .i64 gv5)⟩]⟩
def Q73.sx0_0 (gv1 : Nat) (gv2 : Nat) (gv3 : Nat → Nat) (gv4 : Nat → Nat) (gv5 : Nat → Int) : St := ⟨sl 17 [], [⟨false, .hdr 1 gv1 gv2 gv3 gv4 none⟩, ⟨false, .flat 0 (.ints .i64 gv5)⟩]⟩
theorem Q73.b0_gen {ρ : Type} (N : Nat) (K : AV → Heap → Option ρ) (L0 : St → Option ρ) (kv : XE → St → Option ρ) (table0 : Nat) (gv1 : Nat) (gv2 : Nat) (gv3 : Nat → Nat) (gv4 : Nat → Nat) (gv5 : Nat → Int) (x7 : Int) :
    xcode (E70 N) ents Q73.kp 2 N (cL (cK (cB (cA (cB (cB Q73.bd)))))) 0 (Q73.st0 table0 gv1 gv2 gv3 gv4 gv5 x7) (roundK Q73.kp 2 0 L0 (mixK (Q73.fin N K gv1 gv2 gv3 gv4 gv5 .ret) kv)) = (Q73.b0 N (fun d0 => K (.bool (d0)) [⟨false, .hdr 1 gv1 gv2 gv3 gv4 none⟩, ⟨false, .flat 0 (.ints .i64 gv5)⟩]) (fun x7 => L0 (Q73.st0 table0 gv1 gv2 gv3 gv4 gv5 x7)) (kv (.exit 0) (Q73.sx0_0 gv1 gv2 gv3 gv4 gv5)) table0 gv2 gv3 gv4 gv5 x7) := by kernel_rfl
theorem Q73.b0_eq {ρ : Type} (N : Nat) (K : AV → Heap → Option ρ) (L0 : St → Option ρ) (table0 : Nat) (gv1 : Nat) (gv2 : Nat) (gv3 : Nat → Nat) (gv4 : Nat → Nat) (gv5 : Nat → Int) (x7 : Int) :
    xcode (E70 N) ents Q73.kp 2 N (cL (cK (cB (cA (cB (cB Q73.bd)))))) 0 (Q73.st0 table0 gv1 gv2 gv3 gv4 gv5 x7) (roundK Q73.kp 2 0 L0 (Q73.k0 N K gv1 gv2 gv3 gv4 gv5)) = (Q73.b0 N (fun d0 => K (.bool (d0)) [⟨false, .hdr 1 gv1 gv2 gv3 gv4 none⟩, ⟨false, .flat 0 (.ints .i64 gv5)⟩]) (fun x7 => L0 (Q73.st0 table0 gv1 gv2 gv3 gv4 gv5 x7)) ((Q73.k0 N K gv1 gv2 gv3 gv4 gv5) (.exit 0) (Q73.sx0_0 gv1 gv2 gv3 gv4 gv5)) table0 gv2 gv3 gv4 gv5 x7) := by
  have h := Q73.b0_gen N K L0 (Q73.k0 N K gv1 gv2 gv3 gv4 gv5) table0 gv1 gv2 gv3 gv4 gv5 x7
  rw [Q73.k0_mix] at h
  exact h
theorem Q73.a0_0_eq {ρ : Type} (N : Nat) (K : AV → Heap → Option ρ) (gv1 : Nat) (gv2 : Nat) (gv3 : Nat → Nat) (gv4 : Nat → Nat) (gv5 : Nat → Int) :
    (Q73.k0 N K gv1 gv2 gv3 gv4 gv5) (.exit 0) (Q73.sx0_0 gv1 gv2 gv3 gv4 gv5) = (Q73.a0_0 N (fun d0 => K (.bool (d0)) [⟨false, .hdr 1 gv1 gv2 gv3 gv4 none⟩, ⟨false, .flat 0 (.ints .i64 gv5)⟩])) := by kernel_rfl
theorem Q73.l0_eq {ρ : Type} (N : Nat) (K : AV → Heap → Option ρ) (table0 : Nat) (gv1 : Nat) (gv2 : Nat) (gv3 : Nat → Nat) (gv4 : Nat → Nat) (gv5 : Nat → Int) :
    ∀ (m : Nat) (x7 : Int), xloop (xcode (E70 N) ents Q73.kp 2 N (cL (cK (cB (cA (cB (cB Q73.bd)))))) 0) Q73.kp 2 0 m (Q73.st0 table0 gv1 gv2 gv3 gv4 gv5 x7) (Q73.k0 N K gv1 gv2 gv3 gv4 gv5) = (Q73.l0 N (fun d0 => K (.bool (d0)) [⟨false, .hdr 1 gv1 gv2 gv3 gv4 none⟩, ⟨false, .flat 0 (.ints .i64 gv5)⟩]) table0 gv2 gv3 gv4 gv5 ((Q73.k0 N K gv1 gv2 gv3 gv4 gv5) (.exit 0) (Q73.sx0_0 gv1 gv2 gv3 gv4 gv5)) m x7) := by
  intro m
  induction m with
  | zero => intros; rfl
  | succ m ih =>
    intro x7
    refine (Q73.b0_eq N K (fun s => xloop (xcode (E70 N) ents Q73.kp 2 N (cL (cK (cB (cA (cB (cB Q73.bd)))))) 0) Q73.kp 2 0 m s (Q73.k0 N K gv1 gv2 gv3 gv4 gv5)) table0 gv1 gv2 gv3 gv4 gv5 x7).trans ?_
    simp only [ih]
    kernel_rfl
theorem Q73.s_eq {ρ : Type} (N : Nat) (K : AV → Heap → Option ρ) (table0 : Nat) (gv1 : Nat) (gv2 : Nat) (gv3 : Nat → Nat) (gv4 : Nat → Nat) (gv5 : Nat → Int) :
    xbody (E70 N) ents Q73.kp N Try.f48 Q73.bd [.slice true 0 0 table0 .unk 1] [⟨false, .hdr 1 gv1 gv2 gv3 gv4 none⟩, ⟨false, .flat 0 (.ints .i64 gv5)⟩] K = (Q73.s N (fun d0 => K (.bool (d0)) [⟨false, .hdr 1 gv1 gv2 gv3 gv4 none⟩, ⟨false, .flat 0 (.ints .i64 gv5)⟩]) (fun x7 => xloop (xcode (E70 N) ents Q73.kp 2 N (cL (cK (cB (cA (cB (cB Q73.bd)))))) 0) Q73.kp 2 0 N (Q73.st0 table0 gv1 gv2 gv3 gv4 gv5 x7) (Q73.k0 N K gv1 gv2 gv3 gv4 gv5)) table0 gv2 gv3 gv4 gv5) := by kernel_rfl
theorem Q73.eq {ρ : Type} (N : Nat) (K : AV → Heap → Option ρ) (table0 : Nat) (gv1 : Nat) (gv2 : Nat) (gv3 : Nat → Nat) (gv4 : Nat → Nat) (gv5 : Nat → Int) :
    xbody (E70 N) ents Q73.kp N Try.f48 Q73.bd [.slice true 0 0 table0 .unk 1] [⟨false, .hdr 1 gv1 gv2 gv3 gv4 none⟩, ⟨false, .flat 0 (.ints .i64 gv5)⟩] K = (Q73 N (fun d0 => K (.bool (d0)) [⟨false, .hdr 1 gv1 gv2 gv3 gv4 none⟩, ⟨false, .flat 0 (.ints .i64 gv5)⟩]) table0 gv1 gv2 gv3 gv4 gv5) := by
  refine (Q73.s_eq N K table0 gv1 gv2 gv3 gv4 gv5).trans ?_
  simp only [Q73.l0_eq, Q73.a0_0_eq]
  kernel_rfl
def Q73.en (N : Nat) (ρ : Type) : List AV → Heap → (AV → Heap → Option ρ) → Option ρ
  | [.slice true 0 0 table0 .unk 1], [⟨false, .hdr 1 gv1 gv2 gv3 gv4 none⟩, ⟨false, .flat 0 (.ints .i64 gv5)⟩], K => (Q73 N (fun d0 => K (.bool (d0)) [⟨false, .hdr 1 gv1 gv2 gv3 gv4 none⟩, ⟨false, .flat 0 (.ints .i64 gv5)⟩]) table0 gv1 gv2 gv3 gv4 gv5)
  | _, _, _ => none
theorem Q73.en_ok (N : Nat) (hE : EnvOk (E70 N) ents) (ρ : Type) (args : List AV) (sh : Heap) (K : AV → Heap → Option ρ) (r : ρ) (h : Q73.en N ρ args sh K = some r) : ∃ v sh', K v sh' = some r ∧ FnOk (E70 N).P 48 args sh v sh' := by
  unfold Q73.en at h
  split at h
  · exact fn_ok hE (kp := Q73.kp) (N := N) Try.func48 (c := Q73.bd) (by kernel_rfl) ((Q73.eq N _ _ _ _ _ _ _).trans h)
  · cases h
def E71 (N : Nat) : Env := (E70 N).add 48 (Q73.en N)
theorem E71_ok (N : Nat) : EnvOk (E71 N) ents := Env.add_ok (E70_ok N) (Q73.en_ok N (E70_ok N))
def Q74.kp : Keeps := ⟨[(0, [5, 6, 7], [], [])], [(0, [], [], [])], []⟩
def Q74.bd : Code := bodyOf Try.f46
def Q74.fin {ρ : Type} (N : Nat) (K : AV → Heap → Option ρ) (gv2 : Nat) (gv3 : Nat → Int) : XE → St → Option ρ := finK (E71 N) Q74.kp.fins Try.f46 [⟨false, .flat gv2 (.ints .i64 gv3)⟩] K
def Q74.k0 {ρ : Type} (N : Nat) (K : AV → Heap → Option ρ) (gv2 : Nat) (gv3 : Nat → Int) : XE → St → Option ρ := (blockK Q74.kp 1 0 (seqK (xcode (E71 N) ents Q74.kp 1 N (cB (cB Q74.bd)) 0) (Q74.fin N K gv2 gv3)))
theorem Q74.k0_mix {ρ : Type} (N : Nat) (K : AV → Heap → Option ρ) (gv2 : Nat) (gv3 : Nat → Int) : mixK (Q74.fin N K gv2 gv3 .ret) (Q74.k0 N K gv2 gv3) = (Q74.k0 N K gv2 gv3) := by
  funext e s; cases e <;> kernel_rfl
def Q74.st0 (codes0 : Nat) (codes1 : Nat) (gv2 : Nat) (gv3 : Nat → Int) (x4 : Int) : St := ⟨sl 15 [(5, .slice true 0 0 codes0 (.exact codes1) 1), (6, .int .i64 ((codes0 : Int))), (7, .int .i64 (x4))], [⟨false, .flat gv2 (.ints .i64 gv3)⟩]⟩
def Q74.sx0_0 (gv2 : Nat) (gv3 : Nat → Int) : St := ⟨sl 15 [], [⟨false, .flat gv2 (.ints .i64 gv3)⟩]⟩
theorem Q74.b0_gen {ρ : Type} (N : Nat) (K : AV → Heap → Option ρ) (L0 : St → Option ρ) (kv : XE → St → Option ρ) (codes0 : Nat) (codes1 : Nat) (gv2 : Nat) (gv3 : Nat → Int) (x4 : Int) :
    xcode (E71 N) ents Q74.kp 1 N (cL (cK (cB (cA (cB Q74.bd))))) 0 (Q74.st0 codes0 codes1 gv2 gv3 x4) (roundK Q74.kp 1 0 L0 (mixK (Q74.fin N K gv2 gv3 .ret) kv)) = (Q74.b0 N (fun d0 => K (.int .i64 (d0)) [⟨false, .flat gv2 (.ints .i64 gv3)⟩]) (fun x4 => L0 (Q74.st0 codes0 codes1 gv2 gv3 x4)) (kv (.exit 0) (Q74.sx0_0 gv2 gv3)) codes0 gv3 x4) := by kernel_rfl
theorem Q74.b0_eq {ρ : Type} (N : Nat) (K : AV → Heap → Option ρ) (L0 : St → Option ρ) (codes0 : Nat) (codes1 : Nat) (gv2 : Nat) (gv3 : Nat → Int) (x4 : Int) :
    xcode (E71 N) ents Q74.kp 1 N (cL (cK (cB (cA (cB Q74.bd))))) 0 (Q74.st0 codes0 codes1 gv2 gv3 x4) (roundK Q74.kp 1 0 L0 (Q74.k0 N K gv2 gv3)) = (Q74.b0 N (fun d0 => K (.int .i64 (d0)) [⟨false, .flat gv2 (.ints .i64 gv3)⟩]) (fun x4 => L0 (Q74.st0 codes0 codes1 gv2 gv3 x4)) ((Q74.k0 N K gv2 gv3) (.exit 0) (Q74.sx0_0 gv2 gv3)) codes0 gv3 x4) := by
  have h := Q74.b0_gen N K L0 (Q74.k0 N K gv2 gv3) codes0 codes1 gv2 gv3 x4
  rw [Q74.k0_mix] at h
  exact h
theorem Q74.a0_0_eq {ρ : Type} (N : Nat) (K : AV → Heap → Option ρ) (gv2 : Nat) (gv3 : Nat → Int) :
    (Q74.k0 N K gv2 gv3) (.exit 0) (Q74.sx0_0 gv2 gv3) = (Q74.a0_0 N (fun d0 => K (.int .i64 (d0)) [⟨false, .flat gv2 (.ints .i64 gv3)⟩])) := by kernel_rfl
theorem Q74.l0_eq {ρ : Type} (N : Nat) (K : AV → Heap → Option ρ) (codes0 : Nat) (codes1 : Nat) (gv2 : Nat) (gv3 : Nat → Int) :
    ∀ (m : Nat) (x4 : Int), xloop (xcode (E71 N) ents Q74.kp 1 N (cL (cK (cB (cA (cB Q74.bd))))) 0) Q74.kp 1 0 m (Q74.st0 codes0 codes1 gv2 gv3 x4) (Q74.k0 N K gv2 gv3) = (Q74.l0 N (fun d0 => K (.int .i64 (d0)) [⟨false, .flat gv2 (.ints .i64 gv3)⟩]) codes0 gv3 ((Q74.k0 N K gv2 gv3) (.exit 0) (Q74.sx0_0 gv2 gv3)) m x4) := by
  intro m
  induction m with
  | zero => intros; rfl
  | succ m ih =>
    intro x4
    refine (Q74.b0_eq N K (fun s => xloop (xcode (E71 N) ents Q74.kp 1 N (cL (cK (cB (cA (cB Q74.bd))))) 0) Q74.kp 1 0 m s (Q74.k0 N K gv2 gv3)) codes0 codes1 gv2 gv3 x4).trans ?_
    simp only [ih]
    kernel_rfl
theorem Q74.s_eq {ρ : Type} (N : Nat) (K : AV → Heap → Option ρ) (codes0 : Nat) (codes1 : Nat) (gv2 : Nat) (gv3 : Nat → Int) :
    xbody (E71 N) ents Q74.kp N Try.f46 Q74.bd [.slice true 0 0 codes0 (.exact codes1) 1] [⟨false, .flat gv2 (.ints .i64 gv3)⟩] K = (Q74.s N (fun d0 => K (.int .i64 (d0)) [⟨false, .flat gv2 (.ints .i64 gv3)⟩]) (fun x4 => xloop (xcode (E71 N) ents Q74.kp 1 N (cL (cK (cB (cA (cB Q74.bd))))) 0) Q74.kp 1 0 N (Q74.st0 codes0 codes1 gv2 gv3 x4) (Q74.k0 N K gv2 gv3))) := by kernel_rfl
theorem Q74.eq {ρ : Type} (N : Nat) (K : AV → Heap → Option ρ) (codes0 : Nat) (codes1 : Nat) (gv2 : Nat) (gv3 : Nat → Int) :
    xbody (E71 N) ents Q74.kp N Try.f46 Q74.bd [.slice true 0 0 codes0 (.exact codes1) 1] [⟨false, .flat gv2 (.ints .i64 gv3)⟩] K = (Q74 N (fun d0 => K (.int .i64 (d0)) [⟨false, .flat gv2 (.ints .i64 gv3)⟩]) codes0 codes1 gv2 gv3) := by
  refine (Q74.s_eq N K codes0 codes1 gv2 gv3).trans ?_
  simp only [Q74.l0_eq, Q74.a0_0_eq]
  kernel_rfl
def Q74.en (N : Nat) (ρ : Type) : List AV → Heap → (AV → Heap → Option ρ) → Option ρ
  | [.slice true 0 0 codes0 (.exact codes1) 1], [⟨false, .flat gv2 (.ints .i64 gv3)⟩], K => (Q74 N (fun d0 => K (.int .i64 (d0)) [⟨false, .flat gv2 (.ints .i64 gv3)⟩]) codes0 codes1 gv2 gv3)
  | _, _, _ => none
theorem Q74.en_ok (N : Nat) (hE : EnvOk (E71 N) ents) (ρ : Type) (args : List AV) (sh : Heap) (K : AV → Heap → Option ρ) (r : ρ) (h : Q74.en N ρ args sh K = some r) : ∃ v sh', K v sh' = some r ∧ FnOk (E71 N).P 46 args sh v sh' := by
  unfold Q74.en at h
  split at h
  · exact fn_ok hE (kp := Q74.kp) (N := N) Try.func46 (c := Q74.bd) (by kernel_rfl) ((Q74.eq N _ _ _ _ _).trans h)
  · cases h
def E72 (N : Nat) : Env := (E71 N).add 46 (Q74.en N)
theorem E72_ok (N : Nat) : EnvOk (E72 N) ents := Env.add_ok (E71_ok N) (Q74.en_ok N (E71_ok N))
def Q75.kp : Keeps := ⟨[(0, [1, 4, 5, 15, 16, 17], [], []), (2, [1, 4, 5, 6, 15, 16, 17, 22, 23, 24], [], [])], [(0, [4, 5], [], []), (2, [1, 4, 5, 6, 15, 16, 17], [], [])], []⟩
def Q75.bd : Code := bodyOf Try.f49
def Q75.fin {ρ : Type} (N : Nat) (K : AV → Heap → Option ρ) (gv2 : Nat) (gv3 : Nat) (gv4 : Nat → Nat) (gv5 : Nat → Nat) (gv6 : Nat → Int) : XE → St → Option ρ := finK (E72 N) Q75.kp.fins Try.f49 [⟨false, .hdr 1 gv2 gv3 gv4 gv5 none⟩, ⟨false, .flat 0 (.ints .i64 gv6)⟩] K
def Q75.k0 {ρ : Type} (N : Nat) (K : AV → Heap → Option ρ) (gv2 : Nat) (gv3 : Nat) (gv4 : Nat → Nat) (gv5 : Nat → Nat) (gv6 : Nat → Int) : XE → St → Option ρ := (blockK Q75.kp 2 0 (seqK (xcode (E72 N) ents Q75.kp 2 N (cB (cB (cB Q75.bd))) 0) (Q75.fin N K gv2 gv3 gv4 gv5 gv6)))
theorem Q75.k0_mix {ρ : Type} (N : Nat) (K : AV → Heap → Option ρ) (gv2 : Nat) (gv3 : Nat) (gv4 : Nat → Nat) (gv5 : Nat → Nat) (gv6 : Nat → Int) : mixK (Q75.fin N K gv2 gv3 gv4 gv5 gv6 .ret) (Q75.k0 N K gv2 gv3 gv4 gv5 gv6) = (Q75.k0 N K gv2 gv3 gv4 gv5 gv6) := by
  funext e s; cases e <;> kernel_rfl
def Q75.st0 (p0 : Int) (table1 : Nat) (gv2 : Nat) (gv3 : Nat) (gv4 : Nat → Nat) (gv5 : Nat → Nat) (gv6 : Nat → Int) (x8 : Int) (gv9 : Nat → Int) : St := ⟨sl 56 [(1, .slice true 0 0 table1 .unk 1), (4, .sptr [(2, 2), (3, 1104)]), (5, .sptr [(4, 2), (5, 1104)]), (15, .slice true 0 0 table1 .unk 1), (16, .int .i64 ((table1 : Int))), (17, .int .i64 (x8))], [⟨false, .hdr 1 gv2 gv3 gv4 gv5 none⟩, ⟨false, .flat 0 (.ints .i64 gv6)⟩, ⟨true, .flat 2 (.ints .i64 (fun _ => 0))⟩, ⟨true, .flat 1104 (.ints .u8 (fun _ => 0))⟩, ⟨true, .flat 2 (.ints .i64 (upd (upd (fun _ => 0) 0 p0) 1 (table1 : Int)))⟩, ⟨true, .flat 1104 (.ints .u8 gv9)⟩]⟩
def Q75.sx0_0 (p0 : Int) (table1 : Nat) (gv2 : Nat) (gv3 : Nat) (gv4 : Nat → Nat) (gv5 : Nat → Nat) (gv6 : Nat → Int) (ov17 : Nat → Int) : St := ⟨sl 56 [(4, .sptr [(2, 2), (3, 1104)]), (5, .sptr [(4, 2), (5, 1104)])], [⟨false, .hdr 1 gv2 gv3 gv4 gv5 none⟩, ⟨false, .flat 0 (.ints .i64 gv6)⟩, ⟨true, .flat 2 (.ints .i64 (fun _ => 0))⟩, ⟨true, .flat 1104 (.ints .u8 (fun _ => 0))⟩, ⟨true, .flat 2 (.ints .i64 (upd (upd (fun _ => 0) 0 p0) 1 (table1 : Int)))⟩, ⟨true, .flat 1104 (.ints .u8 ov17)⟩]⟩
def Q75.k1g {ρ : Type} (N : Nat) (L0 : St → Option ρ) (kv : XE → St → Option ρ) : XE → St → Option ρ := (blockK Q75.kp 2 2 (seqK (xcode (E72 N) ents Q75.kp 2 N (cB (cB (cK (cA (cB (cB (cL (cK (cB (cA (cB (cB Q75.bd)))))))))))) 1) (blockK Q75.kp 2 1 (seqK (xcode (E72 N) ents Q75.kp 2 N (cB (cB (cB (cL (cK (cB (cA (cB (cB Q75.bd))))))))) 0) (roundK Q75.kp 2 0 L0 kv)))))
theorem Q75.k1_mix {ρ : Type} (N : Nat) (K : AV → Heap → Option ρ) (L0 : St → Option ρ) (gv2 : Nat) (gv3 : Nat) (gv4 : Nat → Nat) (gv5 : Nat → Nat) (gv6 : Nat → Int) : mixK (Q75.fin N K gv2 gv3 gv4 gv5 gv6 .ret) (Q75.k1g N L0 (Q75.k0 N K gv2 gv3 gv4 gv5 gv6)) = (Q75.k1g N L0 (Q75.k0 N K gv2 gv3 gv4 gv5 gv6)) := by
  funext e s; cases e <;> kernel_rfl
def Q75.st1 (p0 : Int) (table1 : Nat) (gv2 : Nat) (gv3 : Nat) (gv4 : Nat → Nat) (gv5 : Nat → Nat) (gv6 : Nat → Int) (x8 : Int) (x10 : Int) (gv11 : Nat → Int) : St := ⟨sl 56 [(1, .slice true 0 0 table1 .unk 1), (4, .sptr [(2, 2), (3, 1104)]), (5, .sptr [(4, 2), (5, 1104)]), (6, .int .i64 (x8)), (15, .slice true 0 0 table1 .unk 1), (16, .int .i64 ((table1 : Int))), (17, .int .i64 (x8)), (22, .slice false 1 (gv4 (0 + (x8.toNat * 1))) (gv5 (0 + (x8.toNat * 1))) .unk 1), (23, .int .i64 ((((gv5 (0 + (x8.toNat * 1))) : Nat) : Int))), (24, .int .i64 (x10))], [⟨false, .hdr 1 gv2 gv3 gv4 gv5 none⟩, ⟨false, .flat 0 (.ints .i64 gv6)⟩, ⟨true, .flat 2 (.ints .i64 (fun _ => 0))⟩, ⟨true, .flat 1104 (.ints .u8 (fun _ => 0))⟩, ⟨true, .flat 2 (.ints .i64 (upd (upd (fun _ => 0) 0 p0) 1 (table1 : Int)))⟩, ⟨true, .flat 1104 (.ints .u8 gv11)⟩]⟩
def Q75.sx1_0 (p0 : Int) (table1 : Nat) (gv2 : Nat) (gv3 : Nat) (gv4 : Nat → Nat) (gv5 : Nat → Nat) (gv6 : Nat → Int) (x8 : Int) (ov13 : Nat → Int) : St := ⟨sl 56 [(1, .slice true 0 0 table1 .unk 1), (4, .sptr [(2, 2), (3, 1104)]), (5, .sptr [(4, 2), (5, 1104)]), (6, .int .i64 (x8)), (15, .slice true 0 0 table1 .unk 1), (16, .int .i64 ((table1 : Int))), (17, .int .i64 (x8))], [⟨false, .hdr 1 gv2 gv3 gv4 gv5 none⟩, ⟨false, .flat 0 (.ints .i64 gv6)⟩, ⟨true, .flat 2 (.ints .i64 (fun _ => 0))⟩, ⟨true, .flat 1104 (.ints .u8 (fun _ => 0))⟩, ⟨true, .flat 2 (.ints .i64 (upd (upd (fun _ => 0) 0 p0) 1 (table1 : Int)))⟩, ⟨true, .flat 1104 (.ints .u8 ov13)⟩]⟩
theorem Q75.b1_gen {ρ : Type} (N : Nat) (K : AV → Heap → Option ρ) (L1 : St → Option ρ) (kv : XE → St → Option ρ) (p0 : Int) (table1 : Nat) (gv2 : Nat) (gv3 : Nat) (gv4 : Nat → Nat) (gv5 : Nat → Nat) (gv6 : Nat → Int) (x8 : Int) (x10 : Int) (gv11 : Nat → Int) :
    xcode (E72 N) ents Q75.kp 2 N (cL (cK (cB (cA (cB (cK (cA (cB (cB (cL (cK (cB (cA (cB (cB Q75.bd))))))))))))))) 2 (Q75.st1 p0 table1 gv2 gv3 gv4 gv5 gv6 x8 x10 gv11) (roundK Q75.kp 2 2 L1 (mixK (Q75.fin N K gv2 gv3 gv4 gv5 gv6 .ret) kv)) = (Q75.b1 N (fun d0 d1 => K (.agg [⟨.i64, 2, d0⟩, ⟨.u8, 1104, d1⟩]) [⟨false, .hdr 1 gv2 gv3 gv4 gv5 none⟩, ⟨false, .flat 0 (.ints .i64 gv6)⟩]) (fun x10 gv11 => L1 (Q75.st1 p0 table1 gv2 gv3 gv4 gv5 gv6 x8 x10 gv11)) (fun ov13 => kv (.exit 2) (Q75.sx1_0 p0 table1 gv2 gv3 gv4 gv5 gv6 x8 ov13)) gv4 gv5 gv6 x8 x10 gv11) := by kernel_rfl
theorem Q75.b1_eq {ρ : Type} (N : Nat) (K : AV → Heap → Option ρ) (L0 : St → Option ρ) (L1 : St → Option ρ) (p0 : Int) (table1 : Nat) (gv2 : Nat) (gv3 : Nat) (gv4 : Nat → Nat) (gv5 : Nat → Nat) (gv6 : Nat → Int) (x8 : Int) (x10 : Int) (gv11 : Nat → Int) :
    xcode (E72 N) ents Q75.kp 2 N (cL (cK (cB (cA (cB (cK (cA (cB (cB (cL (cK (cB (cA (cB (cB Q75.bd))))))))))))))) 2 (Q75.st1 p0 table1 gv2 gv3 gv4 gv5 gv6 x8 x10 gv11) (roundK Q75.kp 2 2 L1 (Q75.k1g N L0 (Q75.k0 N K gv2 gv3 gv4 gv5 gv6))) = (Q75.b1 N (fun d0 d1 => K (.agg [⟨.i64, 2, d0⟩, ⟨.u8, 1104, d1⟩]) [⟨false, .hdr 1 gv2 gv3 gv4 gv5 none⟩, ⟨false, .flat 0 (.ints .i64 gv6)⟩]) (fun x10 gv11 => L1 (Q75.st1 p0 table1 gv2 gv3 gv4 gv5 gv6 x8 x10 gv11)) (fun ov13 => (Q75.k1g N L0 (Q75.k0 N K gv2 gv3 gv4 gv5 gv6)) (.exit 2) (Q75.sx1_0 p0 table1 gv2 gv3 gv4 gv5 gv6 x8 ov13)) gv4 gv5 gv6 x8 x10 gv11) := by
  have h := Q75.b1_gen N K L1 (Q75.k1g N L0 (Q75.k0 N K gv2 gv3 gv4 gv5 gv6)) p0 table1 gv2 gv3 gv4 gv5 gv6 x8 x10 gv11
  rw [Q75.k1_mix] at h
  exact h
theorem Q75.a1_0_gen {ρ : Type} (N : Nat) (K : AV → Heap → Option ρ) (L0 : St → Option ρ) (kv : XE → St → Option ρ) (p0 : Int) (table1 : Nat) (gv2 : Nat) (gv3 : Nat) (gv4 : Nat → Nat) (gv5 : Nat → Nat) (gv6 : Nat → Int) (x8 : Int) (ov13 : Nat → Int) :
    (Q75.k1g N L0 (mixK (Q75.fin N K gv2 gv3 gv4 gv5 gv6 .ret) kv)) (.exit 2) (Q75.sx1_0 p0 table1 gv2 gv3 gv4 gv5 gv6 x8 ov13) = (Q75.a1_0 N (fun d0 d1 => K (.agg [⟨.i64, 2, d0⟩, ⟨.u8, 1104, d1⟩]) [⟨false, .hdr 1 gv2 gv3 gv4 gv5 none⟩, ⟨false, .flat 0 (.ints .i64 gv6)⟩]) (fun x8 gv9 => L0 (Q75.st0 p0 table1 gv2 gv3 gv4 gv5 gv6 x8 gv9)) (fun ov17 => kv (.exit 0) (Q75.sx0_0 p0 table1 gv2 gv3 gv4 gv5 gv6 ov17)) table1 gv3 gv4 gv5 gv6 x8 ov13) := by kernel_rfl
theorem Q75.a1_0_eq {ρ : Type} (N : Nat) (K : AV → Heap → Option ρ) (L0 : St → Option ρ) (p0 : Int) (table1 : Nat) (gv2 : Nat) (gv3 : Nat) (gv4 : Nat → Nat) (gv5 : Nat → Nat) (gv6 : Nat → Int) (x8 : Int) (ov13 : Nat → Int) :
    (Q75.k1g N L0 (Q75.k0 N K gv2 gv3 gv4 gv5 gv6)) (.exit 2) (Q75.sx1_0 p0 table1 gv2 gv3 gv4 gv5 gv6 x8 ov13) = (Q75.a1_0 N (fun d0 d1 => K (.agg [⟨.i64, 2, d0⟩, ⟨.u8, 1104, d1⟩]) [⟨false, .hdr 1 gv2 gv3 gv4 gv5 none⟩, ⟨false, .flat 0 (.ints .i64 gv6)⟩]) (fun x8 gv9 => L0 (Q75.st0 p0 table1 gv2 gv3 gv4 gv5 gv6 x8 gv9)) (fun ov17 => (Q75.k0 N K gv2 gv3 gv4 gv5 gv6) (.exit 0) (Q75.sx0_0 p0 table1 gv2 gv3 gv4 gv5 gv6 ov17)) table1 gv3 gv4 gv5 gv6 x8 ov13) := by
  have h := Q75.a1_0_gen N K L0 (Q75.k0 N K gv2 gv3 gv4 gv5 gv6) p0 table1 gv2 gv3 gv4 gv5 gv6 x8 ov13
  rw [Q75.k0_mix] at h
  exact h
theorem Q75.b0_gen {ρ : Type} (N : Nat) (K : AV → Heap → Option ρ) (L0 : St → Option ρ) (kv : XE → St → Option ρ) (p0 : Int) (table1 : Nat) (gv2 : Nat) (gv3 : Nat) (gv4 : Nat → Nat) (gv5 : Nat → Nat) (gv6 : Nat → Int) (x8 : Int) (gv9 : Nat → Int) :
    xcode (E72 N) ents Q75.kp 2 N (cL (cK (cB (cA (cB (cB Q75.bd)))))) 0 (Q75.st0 p0 table1 gv2 gv3 gv4 gv5 gv6 x8 gv9) (roundK Q75.kp 2 0 L0 (mixK (Q75.fin N K gv2 gv3 gv4 gv5 gv6 .ret) kv)) = (Q75.b0 N (fun d0 d1 => K (.agg [⟨.i64, 2, d0⟩, ⟨.u8, 1104, d1⟩]) [⟨false, .hdr 1 gv2 gv3 gv4 gv5 none⟩, ⟨false, .flat 0 (.ints .i64 gv6)⟩]) (fun x10 gv11 => xloop (xcode (E72 N) ents Q75.kp 2 N (cL (cK (cB (cA (cB (cK (cA (cB (cB (cL (cK (cB (cA (cB (cB Q75.bd))))))))))))))) 2) Q75.kp 2 2 N (Q75.st1 p0 table1 gv2 gv3 gv4 gv5 gv6 x8 x10 gv11) (Q75.k1g N L0 (mixK (Q75.fin N K gv2 gv3 gv4 gv5 gv6 .ret) kv))) (fun x8 gv9 => L0 (Q75.st0 p0 table1 gv2 gv3 gv4 gv5 gv6 x8 gv9)) (fun ov17 => kv (.exit 0) (Q75.sx0_0 p0 table1 gv2 gv3 gv4 gv5 gv6 ov17)) table1 x8 gv9) := by kernel_rfl
theorem Q75.b0_eq {ρ : Type} (N : Nat) (K : AV → Heap → Option ρ) (L0 : St → Option ρ) (p0 : Int) (table1 : Nat) (gv2 : Nat) (gv3 : Nat) (gv4 : Nat → Nat) (gv5 : Nat → Nat) (gv6 : Nat → Int) (x8 : Int) (gv9 : Nat → Int) :
    xcode (E72 N) ents Q75.kp 2 N (cL (cK (cB (cA (cB (cB Q75.bd)))))) 0 (Q75.st0 p0 table1 gv2 gv3 gv4 gv5 gv6 x8 gv9) (roundK Q75.kp 2 0 L0 (Q75.k0 N K gv2 gv3 gv4 gv5 gv6)) = (Q75.b0 N (fun d0 d1 => K (.agg [⟨.i64, 2, d0⟩, ⟨.u8, 1104, d1⟩]) [⟨false, .hdr 1 gv2 gv3 gv4 gv5 none⟩, ⟨false, .flat 0 (.ints .i64 gv6)⟩]) (fun x10 gv11 => xloop (xcode (E72 N) ents Q75.kp 2 N (cL (cK (cB (cA (cB (cK (cA (cB (cB (cL (cK (cB (cA (cB (cB Q75.bd))))))))))))))) 2) Q75.kp 2 2 N (Q75.st1 p0 table1 gv2 gv3 gv4 gv5 gv6 x8 x10 gv11) (Q75.k1g N L0 (Q75.k0 N K gv2 gv3 gv4 gv5 gv6))) (fun x8 gv9 => L0 (Q75.st0 p0 table1 gv2 gv3 gv4 gv5 gv6 x8 gv9)) (fun ov17 => (Q75.k0 N K gv2 gv3 gv4 gv5 gv6) (.exit 0) (Q75.sx0_0 p0 table1 gv2 gv3 gv4 gv5 gv6 ov17)) table1 x8 gv9) := by
  have h := Q75.b0_gen N K L0 (Q75.k0 N K gv2 gv3 gv4 gv5 gv6) p0 table1 gv2 gv3 gv4 gv5 gv6 x8 gv9
  rw [Q75.k0_mix] at h
  exact h
theorem Q75.a0_0_eq {ρ : Type} (N : Nat) (K : AV → Heap → Option ρ) (p0 : Int) (table1 : Nat) (gv2 : Nat) (gv3 : Nat) (gv4 : Nat → Nat) (gv5 : Nat → Nat) (gv6 : Nat → Int) (ov17 : Nat → Int) :
    (Q75.k0 N K gv2 gv3 gv4 gv5 gv6) (.exit 0) (Q75.sx0_0 p0 table1 gv2 gv3 gv4 gv5 gv6 ov17) = (Q75.a0_0 N (fun d0 d1 => K (.agg [⟨.i64, 2, d0⟩, ⟨.u8, 1104, d1⟩]) [⟨false, .hdr 1 gv2 gv3 gv4 gv5 none⟩, ⟨false, .flat 0 (.ints .i64 gv6)⟩]) p0 table1 ov17) := by kernel_rfl
theorem Q75.l1_eq {ρ : Type} (N : Nat) (K : AV → Heap → Option ρ) (L0 : St → Option ρ) (p0 : Int) (table1 : Nat) (gv2 : Nat) (gv3 : Nat) (gv4 : Nat → Nat) (gv5 : Nat → Nat) (gv6 : Nat → Int) (x8 : Int) :
    ∀ (m : Nat) (x10 : Int) (gv11 : Nat → Int), xloop (xcode (E72 N) ents Q75.kp 2 N (cL (cK (cB (cA (cB (cK (cA (cB (cB (cL (cK (cB (cA (cB (cB Q75.bd))))))))))))))) 2) Q75.kp 2 2 m (Q75.st1 p0 table1 gv2 gv3 gv4 gv5 gv6 x8 x10 gv11) (Q75.k1g N L0 (Q75.k0 N K gv2 gv3 gv4 gv5 gv6)) = (Q75.l1 N (fun d0 d1 => K (.agg [⟨.i64, 2, d0⟩, ⟨.u8, 1104, d1⟩]) [⟨false, .hdr 1 gv2 gv3 gv4 gv5 none⟩, ⟨false, .flat 0 (.ints .i64 gv6)⟩]) gv4 gv5 gv6 x8 (fun ov13 => (Q75.k1g N L0 (Q75.k0 N K gv2 gv3 gv4 gv5 gv6)) (.exit 2) (Q75.sx1_0 p0 table1 gv2 gv3 gv4 gv5 gv6 x8 ov13)) m x10 gv11) := by
  intro m
  induction m with
  | zero => intros; rfl
  | succ m ih =>
    intro x10 gv11
    refine (Q75.b1_eq N K L0 (fun s => xloop (xcode (E72 N) ents Q75.kp 2 N (cL (cK (cB (cA (cB (cK (cA (cB (cB (cL (cK (cB (cA (cB (cB Q75.bd))))))))))))))) 2) Q75.kp 2 2 m s (Q75.k1g N L0 (Q75.k0 N K gv2 gv3 gv4 gv5 gv6))) p0 table1 gv2 gv3 gv4 gv5 gv6 x8 x10 gv11).trans ?_
    simp only [ih]
    kernel_rfl
theorem Q75.l0_eq {ρ : Type} (N : Nat) (K : AV → Heap → Option ρ) (p0 : Int) (table1 : Nat) (gv2 : Nat) (gv3 : Nat) (gv4 : Nat → Nat) (gv5 : Nat → Nat) (gv6 : Nat → Int) :
    ∀ (m : Nat) (x8 : Int) (gv9 : Nat → Int), xloop (xcode (E72 N) ents Q75.kp 2 N (cL (cK (cB (cA (cB (cB Q75.bd)))))) 0) Q75.kp 2 0 m (Q75.st0 p0 table1 gv2 gv3 gv4 gv5 gv6 x8 gv9) (Q75.k0 N K gv2 gv3 gv4 gv5 gv6) = (Q75.l0 N (fun d0 d1 => K (.agg [⟨.i64, 2, d0⟩, ⟨.u8, 1104, d1⟩]) [⟨false, .hdr 1 gv2 gv3 gv4 gv5 none⟩, ⟨false, .flat 0 (.ints .i64 gv6)⟩]) table1 gv3 gv4 gv5 gv6 (fun ov17 => (Q75.k0 N K gv2 gv3 gv4 gv5 gv6) (.exit 0) (Q75.sx0_0 p0 table1 gv2 gv3 gv4 gv5 gv6 ov17)) m x8 gv9) := by
  intro m
  induction m with
  | zero => intros; rfl
  | succ m ih =>
    intro x8 gv9
    refine (Q75.b0_eq N K (fun s => xloop (xcode (E72 N) ents Q75.kp 2 N (cL (cK (cB (cA (cB (cB Q75.bd)))))) 0) Q75.kp 2 0 m s (Q75.k0 N K gv2 gv3 gv4 gv5 gv6)) p0 table1 gv2 gv3 gv4 gv5 gv6 x8 gv9).trans ?_
    simp only [ih, Q75.l1_eq, Q75.a1_0_eq]
    kernel_rfl
theorem Q75.s_eq {ρ : Type} (N : Nat) (K : AV → Heap → Option ρ) (p0 : Int) (table1 : Nat) (gv2 : Nat) (gv3 : Nat) (gv4 : Nat → Nat) (gv5 : Nat → Nat) (gv6 : Nat → Int) :
    xbody (E72 N) ents Q75.kp N Try.f49 Q75.bd [.int .i64 (p0), .slice true 0 0 table1 .unk 1] [⟨false, .hdr 1 gv2 gv3 gv4 gv5 none⟩, ⟨false, .flat 0 (.ints .i64 gv6)⟩] K = (Q75.s N (fun d0 d1 => K (.agg [⟨.i64, 2, d0⟩, ⟨.u8, 1104, d1⟩]) [⟨false, .hdr 1 gv2 gv3 gv4 gv5 none⟩, ⟨false, .flat 0 (.ints .i64 gv6)⟩]) (fun x8 gv9 => xloop (xcode (E72 N) ents Q75.kp 2 N (cL (cK (cB (cA (cB (cB Q75.bd)))))) 0) Q75.kp 2 0 N (Q75.st0 p0 table1 gv2 gv3 gv4 gv5 gv6 x8 gv9) (Q75.k0 N K gv2 gv3 gv4 gv5 gv6))) := by kernel_rfl
theorem Q75.eq {ρ : Type} (N : Nat) (K : AV → Heap → Option ρ) (p0 : Int) (table1 : Nat) (gv2 : Nat) (gv3 : Nat) (gv4 : Nat → Nat) (gv5 : Nat → Nat) (gv6 : Nat → Int) :
    xbody (E72 N) ents Q75.kp N Try.f49 Q75.bd [.int .i64 (p0), .slice true 0 0 table1 .unk 1] [⟨false, .hdr 1 gv2 gv3 gv4 gv5 none⟩, ⟨false, .flat 0 (.ints .i64 gv6)⟩] K = (Q75 N (fun d0 d1 => K (.agg [⟨.i64, 2, d0⟩, ⟨.u8, 1104, d1⟩]) [⟨false, .hdr 1 gv2 gv3 gv4 gv5 none⟩, ⟨false, .flat 0 (.ints .i64 gv6)⟩]) p0 table1 gv2 gv3 gv4 gv5 gv6) := by
  refine (Q75.s_eq N K p0 table1 gv2 gv3 gv4 gv5 gv6).trans ?_
  simp only [Q75.l0_eq, Q75.a0_0_eq]
  kernel_rfl
def Q75.en (N : Nat) (ρ : Type) : List AV → Heap → (AV → Heap → Option ρ) → Option ρ
  | [.int .i64 (p0), .slice true 0 0 table1 .unk 1], [⟨false, .hdr 1 gv2 gv3 gv4 gv5 none⟩, ⟨false, .flat 0 (.ints .i64 gv6)⟩], K => (Q75 N (fun d0 d1 => K (.agg [⟨.i64, 2, d0⟩, ⟨.u8, 1104, d1⟩]) [⟨false, .hdr 1 gv2 gv3 gv4 gv5 none⟩, ⟨false, .flat 0 (.ints .i64 gv6)⟩]) p0 table1 gv2 gv3 gv4 gv5 gv6)
  | _, _, _ => none
theorem Q75.en_ok (N : Nat) (hE : EnvOk (E72 N) ents) (ρ : Type) (args : List AV) (sh : Heap) (K : AV → Heap → Option ρ) (r : ρ) (h : Q75.en N ρ args sh K = some r) : ∃ v sh', K v sh' = some r ∧ FnOk (E72 N).P 49 args sh v sh' := by
  unfold Q75.en at h
  split at h
  · exact fn_ok hE (kp := Q75.kp) (N := N) Try.func49 (c := Q75.bd) (by kernel_rfl) ((Q75.eq N _ _ _ _ _ _ _ _).trans h)
  · cases h
def E73 (N : Nat) : Env := (E72 N).add 49 (Q75.en N)
theorem E73_ok (N : Nat) : EnvOk (E73 N) ents := Env.add_ok (E72_ok N) (Q75.en_ok N (E72_ok N))
def Q76.kp : Keeps := ⟨[], [], []⟩
def Q76.bd : Code := bodyOf Try.f19
def Q76.fin {ρ : Type} (N : Nat) (K : AV → Heap → Option ρ) (gv2 : Nat) (gv3 : Nat) (gv4 : Nat → Nat) (gv5 : Nat → Nat) (gv6 : Nat → Int) : XE → St → Option ρ := finK (E73 N) Q76.kp.fins Try.f19 [⟨false, .hdr 1 gv2 gv3 gv4 gv5 none⟩, ⟨false, .flat 0 (.ints .i64 gv6)⟩] K
theorem Q76.eq {ρ : Type} (N : Nat) (K : AV → Heap → Option ρ) (p0 : Int) (table1 : Nat) (gv2 : Nat) (gv3 : Nat) (gv4 : Nat → Nat) (gv5 : Nat → Nat) (gv6 : Nat → Int) :
    xbody (E73 N) ents Q76.kp N Try.f19 Q76.bd [.int .i64 (p0), .slice true 0 0 table1 .unk 1] [⟨false, .hdr 1 gv2 gv3 gv4 gv5 none⟩, ⟨false, .flat 0 (.ints .i64 gv6)⟩] K = (Q76 N (fun d0 d1 d2 => K (.tup [.agg [⟨.i64, 2, d0⟩, ⟨.u8, 1104, d1⟩], .int .i64 (d2)]) [⟨false, .hdr 1 gv2 gv3 gv4 gv5 none⟩, ⟨false, .flat 0 (.ints .i64 gv6)⟩]) p0 table1 gv2 gv3 gv4 gv5 gv6) := by kernel_rfl
def Q76.en (N : Nat) (ρ : Type) : List AV → Heap → (AV → Heap → Option ρ) → Option ρ
  | [.int .i64 (p0), .slice true 0 0 table1 .unk 1], [⟨false, .hdr 1 gv2 gv3 gv4 gv5 none⟩, ⟨false, .flat 0 (.ints .i64 gv6)⟩], K => (Q76 N (fun d0 d1 d2 => K (.tup [.agg [⟨.i64, 2, d0⟩, ⟨.u8, 1104, d1⟩], .int .i64 (d2)]) [⟨false, .hdr 1 gv2 gv3 gv4 gv5 none⟩, ⟨false, .flat 0 (.ints .i64 gv6)⟩]) p0 table1 gv2 gv3 gv4 gv5 gv6)
  | _, _, _ => none
theorem Q76.en_ok (N : Nat) (hE : EnvOk (E73 N) ents) (ρ : Type) (args : List AV) (sh : Heap) (K : AV → Heap → Option ρ) (r : ρ) (h : Q76.en N ρ args sh K = some r) : ∃ v sh', K v sh' = some r ∧ FnOk (E73 N).P 19 args sh v sh' := by
  unfold Q76.en at h
  split at h
  · exact fn_ok hE (kp := Q76.kp) (N := N) Try.func19 (c := Q76.bd) (by kernel_rfl) ((Q76.eq N _ _ _ _ _ _ _ _).trans h)
  · cases h
def E74 (N : Nat) : Env := (E73 N).add 19 (Q76.en N)
theorem E74_ok (N : Nat) : EnvOk (E74 N) ents := Env.add_ok (E73_ok N) (Q76.en_ok N (E73_ok N))
end
end Go.Proofs.Ytlehklooibbmcaa.H
