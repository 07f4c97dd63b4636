import Derived.Test.YtlehklooibbmcaaHL0
namespace Go.Proofs.Ytlehklooibbmcaa.H
noncomputable section
set_option linter.unusedVariables false
set_option linter.unusedSimpArgs false
open Go Go.RowKit Go.Proofs.Ytlehklooibbmcaa.Hy
set_option maxRecDepth 100000
def Q16.kp : Keeps := ⟨[(0, [0, 3, 4], [], []), (2, [0, 3, 4, 5, 6], [], [])], [(0, [3], [], []), (2, [0, 3, 4, 5], [], [])], []⟩
def Q16.bd : Code := bodyOf Try.f29
def Q16.fin {ρ : Type} (N : Nat) (K : AV → Heap → Option ρ) : XE → St → Option ρ := finK (E16 N) Q16.kp.fins Try.f29 [] K
def Q16.k0 {ρ : Type} (N : Nat) (K : AV → Heap → Option ρ) : XE → St → Option ρ := (blockK Q16.kp 0 0 (seqK (xcode (E16 N) ents Q16.kp 0 N (cB (cB (cB Q16.bd))) 0) (Q16.fin N K)))
theorem Q16.k0_mix {ρ : Type} (N : Nat) (K : AV → Heap → Option ρ) : mixK (Q16.fin N K .ret) (Q16.k0 N K) = (Q16.k0 N K) := by
  funext e s; cases e <;> kernel_rfl
def Q16.st0 (nv0 : Int) (outv1 : Nat) (i2 : Int) (gv3 : Nat) (gv4 : Nat → Nat) (gv5 : Nat → Nat) (gv6 : Nat → Int) : St := ⟨sl 32 [(0, .int .i64 (nv0)), (3, .slice true 0 0 outv1 .whole 1), (4, .int .i64 (i2))], [⟨true, .hdr 1 0 gv3 gv4 gv5 none⟩, ⟨true, .flat 0 (.ints .i64 gv6)⟩]⟩
def Q16.sx0_0 (ov12 : Nat) (ov13 : Nat) (ov14 : Nat → Nat) (ov15 : Nat → Nat) (ov16 : Nat → Int) : St := ⟨sl 32 [(3, .slice true 0 0 ov12 .whole 1)], [⟨true, .hdr 1 0 ov13 ov14 ov15 none⟩, ⟨true, .flat 0 (.ints .i64 ov16)⟩]⟩
def Q16.k1g {ρ : Type} (N : Nat) (L0 : St → Option ρ) (kv : XE → St → Option ρ) : XE → St → Option ρ := (blockK Q16.kp 0 2 (seqK (xcode (E16 N) ents Q16.kp 0 N (cB (cB (cK (cA (cB (cL (cK (cB (cA (cB (cB Q16.bd))))))))))) 1) (blockK Q16.kp 0 1 (seqK (xcode (E16 N) ents Q16.kp 0 N (cB (cB (cL (cK (cB (cA (cB (cB Q16.bd)))))))) 0) (roundK Q16.kp 0 0 L0 kv)))))
theorem Q16.k1_mix {ρ : Type} (N : Nat) (K : AV → Heap → Option ρ) (L0 : St → Option ρ) : mixK (Q16.fin N K .ret) (Q16.k1g N L0 (Q16.k0 N K)) = (Q16.k1g N L0 (Q16.k0 N K)) := by
  funext e s; cases e <;> kernel_rfl
def Q16.st1 (nv0 : Int) (outv1 : Nat) (i2 : Int) (gv3 : Nat) (gv4 : Nat → Nat) (gv5 : Nat → Nat) (gv6 : Nat → Int) (row7 : Nat) (j8 : Int) (gv9 : Nat → Int) : St := ⟨sl 32 [(0, .int .i64 (nv0)), (3, .slice true 0 0 outv1 .whole 1), (4, .int .i64 (i2)), (5, .slice true 1 0 row7 .whole 1), (6, .int .i64 (j8))], [⟨true, .hdr 2 0 gv3 gv4 gv5 none⟩, ⟨true, .flat 0 (.ints .i64 gv9)⟩, ⟨true, .flat 0 (.ints .i64 gv6)⟩]⟩
def Q16.sx1_0 (nv0 : Int) (outv1 : Nat) (i2 : Int) (gv3 : Nat) (gv4 : Nat → Nat) (gv5 : Nat → Nat) (gv6 : Nat → Int) (ov10 : Nat) (ov11 : Nat → Int) : St := ⟨sl 32 [(0, .int .i64 (nv0)), (3, .slice true 0 0 outv1 .whole 1), (4, .int .i64 (i2)), (5, .slice true 1 0 ov10 .whole 1)], [⟨true, .hdr 2 0 gv3 gv4 gv5 none⟩, ⟨true, .flat 0 (.ints .i64 ov11)⟩, ⟨true, .flat 0 (.ints .i64 gv6)⟩]⟩
theorem Q16.b1_gen {ρ : Type} (N : Nat) (K : AV → Heap → Option ρ) (L1 : St → Option ρ) (kv : XE → St → Option ρ) (nv0 : Int) (outv1 : Nat) (i2 : Int) (gv3 : Nat) (gv4 : Nat → Nat) (gv5 : Nat → Nat) (gv6 : Nat → Int) (row7 : Nat) (j8 : Int) (gv9 : Nat → Int) :
    xcode (E16 N) ents Q16.kp 0 N (cL (cK (cB (cA (cB (cK (cA (cB (cL (cK (cB (cA (cB (cB Q16.bd)))))))))))))) 2 (Q16.st1 nv0 outv1 i2 gv3 gv4 gv5 gv6 row7 j8 gv9) (roundK Q16.kp 0 2 L1 (mixK (Q16.fin N K .ret) kv)) = (Q16.b1 N (fun d0 d1 d2 d3 d4 => K (.slice true 0 0 d0 .whole 1) [⟨true, .hdr 1 0 d1 d2 d3 none⟩, ⟨true, .flat 0 (.ints .i64 d4)⟩]) (fun row7 j8 gv9 => L1 (Q16.st1 nv0 outv1 i2 gv3 gv4 gv5 gv6 row7 j8 gv9)) (fun ov10 ov11 => kv (.exit 2) (Q16.sx1_0 nv0 outv1 i2 gv3 gv4 gv5 gv6 ov10 ov11)) nv0 i2 row7 j8 gv9) := by kernel_rfl
theorem Q16.b1_eq {ρ : Type} (N : Nat) (K : AV → Heap → Option ρ) (L0 : St → Option ρ) (L1 : St → Option ρ) (nv0 : Int) (outv1 : Nat) (i2 : Int) (gv3 : Nat) (gv4 : Nat → Nat) (gv5 : Nat → Nat) (gv6 : Nat → Int) (row7 : Nat) (j8 : Int) (gv9 : Nat → Int) :
    xcode (E16 N) ents Q16.kp 0 N (cL (cK (cB (cA (cB (cK (cA (cB (cL (cK (cB (cA (cB (cB Q16.bd)))))))))))))) 2 (Q16.st1 nv0 outv1 i2 gv3 gv4 gv5 gv6 row7 j8 gv9) (roundK Q16.kp 0 2 L1 (Q16.k1g N L0 (Q16.k0 N K))) = (Q16.b1 N (fun d0 d1 d2 d3 d4 => K (.slice true 0 0 d0 .whole 1) [⟨true, .hdr 1 0 d1 d2 d3 none⟩, ⟨true, .flat 0 (.ints .i64 d4)⟩]) (fun row7 j8 gv9 => L1 (Q16.st1 nv0 outv1 i2 gv3 gv4 gv5 gv6 row7 j8 gv9)) (fun ov10 ov11 => (Q16.k1g N L0 (Q16.k0 N K)) (.exit 2) (Q16.sx1_0 nv0 outv1 i2 gv3 gv4 gv5 gv6 ov10 ov11)) nv0 i2 row7 j8 gv9) := by
  have h := Q16.b1_gen N K L1 (Q16.k1g N L0 (Q16.k0 N K)) nv0 outv1 i2 gv3 gv4 gv5 gv6 row7 j8 gv9
  rw [Q16.k1_mix] at h
  exact h
theorem Q16.a1_0_gen {ρ : Type} (N : Nat) (K : AV → Heap → Option ρ) (L0 : St → Option ρ) (kv : XE → St → Option ρ) (nv0 : Int) (outv1 : Nat) (i2 : Int) (gv3 : Nat) (gv4 : Nat → Nat) (gv5 : Nat → Nat) (gv6 : Nat → Int) (ov10 : Nat) (ov11 : Nat → Int) :
    (Q16.k1g N L0 (mixK (Q16.fin N K .ret) kv)) (.exit 2) (Q16.sx1_0 nv0 outv1 i2 gv3 gv4 gv5 gv6 ov10 ov11) = (Q16.a1_0 N (fun d0 d1 d2 d3 d4 => K (.slice true 0 0 d0 .whole 1) [⟨true, .hdr 1 0 d1 d2 d3 none⟩, ⟨true, .flat 0 (.ints .i64 d4)⟩]) (fun outv1 i2 gv3 gv4 gv5 gv6 => L0 (Q16.st0 nv0 outv1 i2 gv3 gv4 gv5 gv6)) (fun ov12 ov13 ov14 ov15 ov16 => kv (.exit 0) (Q16.sx0_0 ov12 ov13 ov14 ov15 ov16)) outv1 i2 gv3 gv4 gv5 gv6 ov10 ov11) := by kernel_rfl
theorem Q16.a1_0_eq {ρ : Type} (N : Nat) (K : AV → Heap → Option ρ) (L0 : St → Option ρ) (nv0 : Int) (outv1 : Nat) (i2 : Int) (gv3 : Nat) (gv4 : Nat → Nat) (gv5 : Nat → Nat) (gv6 : Nat → Int) (ov10 : Nat) (ov11 : Nat → Int) :
    (Q16.k1g N L0 (Q16.k0 N K)) (.exit 2) (Q16.sx1_0 nv0 outv1 i2 gv3 gv4 gv5 gv6 ov10 ov11) = (Q16.a1_0 N (fun d0 d1 d2 d3 d4 => K (.slice true 0 0 d0 .whole 1) [⟨true, .hdr 1 0 d1 d2 d3 none⟩, ⟨true, .flat 0 (.ints .i64 d4)⟩]) (fun outv1 i2 gv3 gv4 gv5 gv6 => L0 (Q16.st0 nv0 outv1 i2 gv3 gv4 gv5 gv6)) (fun ov12 ov13 ov14 ov15 ov16 => (Q16.k0 N K) (.exit 0) (Q16.sx0_0 ov12 ov13 ov14 ov15 ov16)) outv1 i2 gv3 gv4 gv5 gv6 ov10 ov11) := by
  have h := Q16.a1_0_gen N K L0 (Q16.k0 N K) nv0 outv1 i2 gv3 gv4 gv5 gv6 ov10 ov11
  rw [Q16.k0_mix] at h
  exact h
theorem Q16.b0_gen {ρ : Type} (N : Nat) (K : AV → Heap → Option ρ) (L0 : St → Option ρ) (kv : XE → St → Option ρ) (nv0 : Int) (outv1 : Nat) (i2 : Int) (gv3 : Nat) (gv4 : Nat → Nat) (gv5 : Nat → Nat) (gv6 : Nat → Int) :
    xcode (E16 N) ents Q16.kp 0 N (cL (cK (cB (cA (cB (cB Q16.bd)))))) 0 (Q16.st0 nv0 outv1 i2 gv3 gv4 gv5 gv6) (roundK Q16.kp 0 0 L0 (mixK (Q16.fin N K .ret) kv)) = (Q16.b0 N (fun d0 d1 d2 d3 d4 => K (.slice true 0 0 d0 .whole 1) [⟨true, .hdr 1 0 d1 d2 d3 none⟩, ⟨true, .flat 0 (.ints .i64 d4)⟩]) (fun row7 j8 gv9 => xloop (xcode (E16 N) ents Q16.kp 0 N (cL (cK (cB (cA (cB (cK (cA (cB (cL (cK (cB (cA (cB (cB Q16.bd)))))))))))))) 2) Q16.kp 0 2 N (Q16.st1 nv0 outv1 i2 gv3 gv4 gv5 gv6 row7 j8 gv9) (Q16.k1g N L0 (mixK (Q16.fin N K .ret) kv))) (fun outv1 i2 gv3 gv4 gv5 gv6 => L0 (Q16.st0 nv0 outv1 i2 gv3 gv4 gv5 gv6)) (fun ov12 ov13 ov14 ov15 ov16 => kv (.exit 0) (Q16.sx0_0 ov12 ov13 ov14 ov15 ov16)) nv0 outv1 i2 gv3 gv4 gv5 gv6) := by kernel_rfl
theorem Q16.b0_eq {ρ : Type} (N : Nat) (K : AV → Heap → Option ρ) (L0 : St → Option ρ) (nv0 : Int) (outv1 : Nat) (i2 : Int) (gv3 : Nat) (gv4 : Nat → Nat) (gv5 : Nat → Nat) (gv6 : Nat → Int) :
    xcode (E16 N) ents Q16.kp 0 N (cL (cK (cB (cA (cB (cB Q16.bd)))))) 0 (Q16.st0 nv0 outv1 i2 gv3 gv4 gv5 gv6) (roundK Q16.kp 0 0 L0 (Q16.k0 N K)) = (Q16.b0 N (fun d0 d1 d2 d3 d4 => K (.slice true 0 0 d0 .whole 1) [⟨true, .hdr 1 0 d1 d2 d3 none⟩, ⟨true, .flat 0 (.ints .i64 d4)⟩]) (fun row7 j8 gv9 => xloop (xcode (E16 N) ents Q16.kp 0 N (cL (cK (cB (cA (cB (cK (cA (cB (cL (cK (cB (cA (cB (cB Q16.bd)))))))))))))) 2) Q16.kp 0 2 N (Q16.st1 nv0 outv1 i2 gv3 gv4 gv5 gv6 row7 j8 gv9) (Q16.k1g N L0 (Q16.k0 N K))) (fun outv1 i2 gv3 gv4 gv5 gv6 => L0 (Q16.st0 nv0 outv1 i2 gv3 gv4 gv5 gv6)) (fun ov12 ov13 ov14 ov15 ov16 => (Q16.k0 N K) (.exit 0) (Q16.sx0_0 ov12 ov13 ov14 ov15 ov16)) nv0 outv1 i2 gv3 gv4 gv5 gv6) := by
  have h := Q16.b0_gen N K L0 (Q16.k0 N K) nv0 outv1 i2 gv3 gv4 gv5 gv6
  rw [Q16.k0_mix] at h
  exact h
theorem Q16.a0_0_eq {ρ : Type} (N : Nat) (K : AV → Heap → Option ρ) (ov12 : Nat) (ov13 : Nat) (ov14 : Nat → Nat) (ov15 : Nat → Nat) (ov16 : Nat → Int) :
    (Q16.k0 N K) (.exit 0) (Q16.sx0_0 ov12 ov13 ov14 ov15 ov16) = (Q16.a0_0 N (fun d0 d1 d2 d3 d4 => K (.slice true 0 0 d0 .whole 1) [⟨true, .hdr 1 0 d1 d2 d3 none⟩, ⟨true, .flat 0 (.ints .i64 d4)⟩]) ov12 ov13 ov14 ov15 ov16) := by kernel_rfl
theorem Q16.l1_eq {ρ : Type} (N : Nat) (K : AV → Heap → Option ρ) (L0 : St → Option ρ) (nv0 : Int) (outv1 : Nat) (i2 : Int) (gv3 : Nat) (gv4 : Nat → Nat) (gv5 : Nat → Nat) (gv6 : Nat → Int) :
    ∀ (m : Nat) (row7 : Nat) (j8 : Int) (gv9 : Nat → Int), xloop (xcode (E16 N) ents Q16.kp 0 N (cL (cK (cB (cA (cB (cK (cA (cB (cL (cK (cB (cA (cB (cB Q16.bd)))))))))))))) 2) Q16.kp 0 2 m (Q16.st1 nv0 outv1 i2 gv3 gv4 gv5 gv6 row7 j8 gv9) (Q16.k1g N L0 (Q16.k0 N K)) = (Q16.l1 N (fun d0 d1 d2 d3 d4 => K (.slice true 0 0 d0 .whole 1) [⟨true, .hdr 1 0 d1 d2 d3 none⟩, ⟨true, .flat 0 (.ints .i64 d4)⟩]) nv0 i2 (fun ov10 ov11 => (Q16.k1g N L0 (Q16.k0 N K)) (.exit 2) (Q16.sx1_0 nv0 outv1 i2 gv3 gv4 gv5 gv6 ov10 ov11)) m row7 j8 gv9) := by
  intro m
  induction m with
  | zero => intros; rfl
  | succ m ih =>
    intro row7 j8 gv9
    refine (Q16.b1_eq N K L0 (fun s => xloop (xcode (E16 N) ents Q16.kp 0 N (cL (cK (cB (cA (cB (cK (cA (cB (cL (cK (cB (cA (cB (cB Q16.bd)))))))))))))) 2) Q16.kp 0 2 m s (Q16.k1g N L0 (Q16.k0 N K))) nv0 outv1 i2 gv3 gv4 gv5 gv6 row7 j8 gv9).trans ?_
    simp only [ih]
    kernel_rfl
theorem Q16.l0_eq {ρ : Type} (N : Nat) (K : AV → Heap → Option ρ) (nv0 : Int) :
    ∀ (m : Nat) (outv1 : Nat) (i2 : Int) (gv3 : Nat) (gv4 : Nat → Nat) (gv5 : Nat → Nat) (gv6 : Nat → Int), xloop (xcode (E16 N) ents Q16.kp 0 N (cL (cK (cB (cA (cB (cB Q16.bd)))))) 0) Q16.kp 0 0 m (Q16.st0 nv0 outv1 i2 gv3 gv4 gv5 gv6) (Q16.k0 N K) = (Q16.l0 N (fun d0 d1 d2 d3 d4 => K (.slice true 0 0 d0 .whole 1) [⟨true, .hdr 1 0 d1 d2 d3 none⟩, ⟨true, .flat 0 (.ints .i64 d4)⟩]) nv0 (fun ov12 ov13 ov14 ov15 ov16 => (Q16.k0 N K) (.exit 0) (Q16.sx0_0 ov12 ov13 ov14 ov15 ov16)) m outv1 i2 gv3 gv4 gv5 gv6) := by
  intro m
  induction m with
  | zero => intros; rfl
  | succ m ih =>
    intro outv1 i2 gv3 gv4 gv5 gv6
    refine (Q16.b0_eq N K (fun s => xloop (xcode (E16 N) ents Q16.kp 0 N (cL (cK (cB (cA (cB (cB Q16.bd)))))) 0) Q16.kp 0 0 m s (Q16.k0 N K)) nv0 outv1 i2 gv3 gv4 gv5 gv6).trans ?_
    simp only [ih, Q16.l1_eq, Q16.a1_0_eq]
    kernel_rfl
theorem Q16.s_eq {ρ : Type} (N : Nat) (K : AV → Heap → Option ρ) (nv0 : Int) :
    xbody (E16 N) ents Q16.kp N Try.f29 Q16.bd [.int .i64 (nv0)] [] K = (Q16.s N (fun d0 d1 d2 d3 d4 => K (.slice true 0 0 d0 .whole 1) [⟨true, .hdr 1 0 d1 d2 d3 none⟩, ⟨true, .flat 0 (.ints .i64 d4)⟩]) (fun outv1 i2 gv3 gv4 gv5 gv6 => xloop (xcode (E16 N) ents Q16.kp 0 N (cL (cK (cB (cA (cB (cB Q16.bd)))))) 0) Q16.kp 0 0 N (Q16.st0 nv0 outv1 i2 gv3 gv4 gv5 gv6) (Q16.k0 N K))) := by kernel_rfl
theorem Q16.eq {ρ : Type} (N : Nat) (K : AV → Heap → Option ρ) (nv0 : Int) :
    xbody (E16 N) ents Q16.kp N Try.f29 Q16.bd [.int .i64 (nv0)] [] K = (Q16 N (fun d0 d1 d2 d3 d4 => K (.slice true 0 0 d0 .whole 1) [⟨true, .hdr 1 0 d1 d2 d3 none⟩, ⟨true, .flat 0 (.ints .i64 d4)⟩]) nv0) := by
  refine (Q16.s_eq N K nv0).trans ?_
  simp only [Q16.l0_eq, Q16.a0_0_eq]
  kernel_rfl
def Q16.en (N : Nat) (ρ : Type) : List AV → Heap → (AV → Heap → Option ρ) → Option ρ
  | [.int .i64 (nv0)], [], K => (Q16 N (fun d0 d1 d2 d3 d4 => K (.slice true 0 0 d0 .whole 1) [⟨true, .hdr 1 0 d1 d2 d3 none⟩, ⟨true, .flat 0 (.ints .i64 d4)⟩]) nv0)
  | _, _, _ => none
theorem Q16.en_ok (N : Nat) (hE : EnvOk (E16 N) ents) (ρ : Type) (args : List AV) (sh : Heap) (K : AV → Heap → Option ρ) (r : ρ) (h : Q16.en N ρ args sh K = some r) : ∃ v sh', K v sh' = some r ∧ FnOk (E16 N).P 29 args sh v sh' := by
  unfold Q16.en at h
  split at h
  · exact fn_ok hE (kp := Q16.kp) (N := N) Try.func29 (c := Q16.bd) (by kernel_rfl) ((Q16.eq N _ _).trans h)
  · cases h
def E17 (N : Nat) : Env := (E16 N).add 29 (Q16.en N)
theorem E17_ok (N : Nat) : EnvOk (E17 N) ents := Env.add_ok (E16_ok N) (Q16.en_ok N (E16_ok N))
def Q17.kp : Keeps := ⟨[(0, [0, 1, 5, 6, 7], [], []), (2, [0, 1, 5, 6, 7, 8, 9], [], [])], [(0, [5], [], []), (2, [0, 1, 5, 6, 7, 8], [], [])], []⟩
def Q17.bd : Code := bodyOf Try.f28
def Q17.fin {ρ : Type} (N : Nat) (K : AV → Heap → Option ρ) (gv2 : Nat) (gv3 : Nat) (gv4 : Nat → Nat) (gv5 : Nat → Nat) (gv6 : Nat) (gv7 : Nat) (gv8 : Nat → Nat) (gv9 : Nat → Nat) (gv10 : Nat → Int) (gv11 : Nat → Int) : XE → St → Option ρ := finK (E17 N) Q17.kp.fins Try.f28 [⟨false, .hdr 2 gv2 gv3 gv4 gv5 none⟩, ⟨false, .hdr 3 gv6 gv7 gv8 gv9 none⟩, ⟨false, .flat 0 (.ints .i64 gv10)⟩, ⟨false, .flat 0 (.ints .i64 gv11)⟩] K
def Q17.k0 {ρ : Type} (N : Nat) (K : AV → Heap → Option ρ) (gv2 : Nat) (gv3 : Nat) (gv4 : Nat → Nat) (gv5 : Nat → Nat) (gv6 : Nat) (gv7 : Nat) (gv8 : Nat → Nat) (gv9 : Nat → Nat) (gv10 : Nat → Int) (gv11 : Nat → Int) : XE → St → Option ρ := (blockK Q17.kp 4 0 (seqK (xcode (E17 N) ents Q17.kp 4 N (cB (cB (cB Q17.bd))) 0) (Q17.fin N K gv2 gv3 gv4 gv5 gv6 gv7 gv8 gv9 gv10 gv11)))
theorem Q17.k0_mix {ρ : Type} (N : Nat) (K : AV → Heap → Option ρ) (gv2 : Nat) (gv3 : Nat) (gv4 : Nat → Nat) (gv5 : Nat → Nat) (gv6 : Nat) (gv7 : Nat) (gv8 : Nat → Nat) (gv9 : Nat → Nat) (gv10 : Nat → Int) (gv11 : Nat → Int) : mixK (Q17.fin N K gv2 gv3 gv4 gv5 gv6 gv7 gv8 gv9 gv10 gv11 .ret) (Q17.k0 N K gv2 gv3 gv4 gv5 gv6 gv7 gv8 gv9 gv10 gv11) = (Q17.k0 N K gv2 gv3 gv4 gv5 gv6 gv7 gv8 gv9 gv10 gv11) := by
  funext e s; cases e <;> kernel_rfl
def Q17.st0 (table0 : Nat) (other1 : Nat) (gv2 : Nat) (gv3 : Nat) (gv4 : Nat → Nat) (gv5 : Nat → Nat) (gv6 : Nat) (gv7 : Nat) (gv8 : Nat → Nat) (gv9 : Nat → Nat) (gv10 : Nat → Int) (gv11 : Nat → Int) (outv12 : Nat) (i13 : Int) (gv14 : Nat) (gv15 : Nat → Nat) (gv16 : Nat → Nat) (gv17 : Nat → Int) : St := ⟨sl 63 [(0, .slice true 0 0 table0 .unk 1), (1, .slice true 1 0 other1 .unk 1), (5, .slice true 4 0 outv12 .whole 1), (6, .int .i64 ((other1 : Int))), (7, .int .i64 (i13))], [⟨false, .hdr 2 gv2 gv3 gv4 gv5 none⟩, ⟨false, .hdr 3 gv6 gv7 gv8 gv9 none⟩, ⟨false, .flat 0 (.ints .i64 gv10)⟩, ⟨false, .flat 0 (.ints .i64 gv11)⟩, ⟨true, .hdr 5 0 gv14 gv15 gv16 none⟩, ⟨true, .flat 0 (.ints .i64 gv17)⟩]⟩
def Q17.sx0_0 (gv2 : Nat) (gv3 : Nat) (gv4 : Nat → Nat) (gv5 : Nat → Nat) (gv6 : Nat) (gv7 : Nat) (gv8 : Nat → Nat) (gv9 : Nat → Nat) (gv10 : Nat → Int) (gv11 : Nat → Int) (ov23 : Nat) (ov24 : Nat) (ov25 : Nat → Nat) (ov26 : Nat → Nat) (ov27 : Nat → Int) : St := ⟨sl 63 [(5, .slice true 4 0 ov23 .whole 1)], [⟨false, .hdr 2 gv2 gv3 gv4 gv5 none⟩, ⟨false, .hdr 3 gv6 gv7 gv8 gv9 none⟩, ⟨false, .flat 0 (.ints .i64 gv10)⟩, ⟨false, .flat 0 (.ints .i64 gv11)⟩, ⟨true, .hdr 5 0 ov24 ov25 ov26 none⟩, ⟨true, .flat 0 (.ints .i64 ov27)⟩]⟩
def Q17.k1g {ρ : Type} (N : Nat) (L0 : St → Option ρ) (kv : XE → St → Option ρ) : XE → St → Option ρ := (blockK Q17.kp 4 2 (seqK (xcode (E17 N) ents Q17.kp 4 N (cB (cB (cK (cA (cB (cL (cK (cB (cA (cB (cB Q17.bd))))))))))) 1) (blockK Q17.kp 4 1 (seqK (xcode (E17 N) ents Q17.kp 4 N (cB (cB (cL (cK (cB (cA (cB (cB Q17.bd)))))))) 0) (roundK Q17.kp 4 0 L0 kv)))))
theorem Q17.k1_mix {ρ : Type} (N : Nat) (K : AV → Heap → Option ρ) (L0 : St → Option ρ) (gv2 : Nat) (gv3 : Nat) (gv4 : Nat → Nat) (gv5 : Nat → Nat) (gv6 : Nat) (gv7 : Nat) (gv8 : Nat → Nat) (gv9 : Nat → Nat) (gv10 : Nat → Int) (gv11 : Nat → Int) : mixK (Q17.fin N K gv2 gv3 gv4 gv5 gv6 gv7 gv8 gv9 gv10 gv11 .ret) (Q17.k1g N L0 (Q17.k0 N K gv2 gv3 gv4 gv5 gv6 gv7 gv8 gv9 gv10 gv11)) = (Q17.k1g N L0 (Q17.k0 N K gv2 gv3 gv4 gv5 gv6 gv7 gv8 gv9 gv10 gv11)) := by
  funext e s; cases e <;> kernel_rfl
def Q17.st1 (table0 : Nat) (other1 : Nat) (gv2 : Nat) (gv3 : Nat) (gv4 : Nat → Nat) (gv5 : Nat → Nat) (gv6 : Nat) (gv7 : Nat) (gv8 : Nat → Nat) (gv9 : Nat → Nat) (gv10 : Nat → Int) (gv11 : Nat → Int) (outv12 : Nat) (i13 : Int) (gv14 : Nat) (gv15 : Nat → Nat) (gv16 : Nat → Nat) (gv17 : Nat → Int) (row18 : Nat) (j19 : Int) (gv20 : Nat → Int) : St := ⟨sl 63 [(0, .slice true 0 0 table0 .unk 1), (1, .slice true 1 0 other1 .unk 1), (5, .slice true 4 0 outv12 .whole 1), (6, .int .i64 ((other1 : Int))), (7, .int .i64 (i13)), (8, .slice true 5 0 row18 .whole 1), (9, .int .i64 (j19))], [⟨false, .hdr 2 gv2 gv3 gv4 gv5 none⟩, ⟨false, .hdr 3 gv6 gv7 gv8 gv9 none⟩, ⟨false, .flat 0 (.ints .i64 gv10)⟩, ⟨false, .flat 0 (.ints .i64 gv11)⟩, ⟨true, .hdr 6 0 gv14 gv15 gv16 none⟩, ⟨true, .flat 0 (.ints .i64 gv20)⟩, ⟨true, .flat 0 (.ints .i64 gv17)⟩]⟩
def Q17.sx1_0 (table0 : Nat) (other1 : Nat) (gv2 : Nat) (gv3 : Nat) (gv4 : Nat → Nat) (gv5 : Nat → Nat) (gv6 : Nat) (gv7 : Nat) (gv8 : Nat → Nat) (gv9 : Nat → Nat) (gv10 : Nat → Int) (gv11 : Nat → Int) (outv12 : Nat) (i13 : Int) (gv14 : Nat) (gv15 : Nat → Nat) (gv16 : Nat → Nat) (gv17 : Nat → Int) (ov21 : Nat) (ov22 : Nat → Int) : St := ⟨sl 63 [(0, .slice true 0 0 table0 .unk 1), (1, .slice true 1 0 other1 .unk 1), (5, .slice true 4 0 outv12 .whole 1), (6, .int .i64 ((other1 : Int))), (7, .int .i64 (i13)), (8, .slice true 5 0 ov21 .whole 1)], [⟨false, .hdr 2 gv2 gv3 gv4 gv5 none⟩, ⟨false, .hdr 3 gv6 gv7 gv8 gv9 none⟩, ⟨false, .flat 0 (.ints .i64 gv10)⟩, ⟨false, .flat 0 (.ints .i64 gv11)⟩, ⟨true, .hdr 6 0 gv14 gv15 gv16 none⟩, ⟨true, .flat 0 (.ints .i64 ov22)⟩, ⟨true, .flat 0 (.ints .i64 gv17)⟩]⟩
theorem Q17.b1_gen {ρ : Type} (N : Nat) (K : AV → Heap → Option ρ) (L1 : St → Option ρ) (kv : XE → St → Option ρ) (table0 : Nat) (other1 : Nat) (gv2 : Nat) (gv3 : Nat) (gv4 : Nat → Nat) (gv5 : Nat → Nat) (gv6 : Nat) (gv7 : Nat) (gv8 : Nat → Nat) (gv9 : Nat → Nat) (gv10 : Nat → Int) (gv11 : Nat → Int) (outv12 : Nat) (i13 : Int) (gv14 : Nat) (gv15 : Nat → Nat) (gv16 : Nat → Nat) (gv17 : Nat → Int) (row18 : Nat) (j19 : Int) (gv20 : Nat → Int) :
    xcode (E17 N) ents Q17.kp 4 N (cL (cK (cB (cA (cB (cK (cA (cB (cL (cK (cB (cA (cB (cB Q17.bd)))))))))))))) 2 (Q17.st1 table0 other1 gv2 gv3 gv4 gv5 gv6 gv7 gv8 gv9 gv10 gv11 outv12 i13 gv14 gv15 gv16 gv17 row18 j19 gv20) (roundK Q17.kp 4 2 L1 (mixK (Q17.fin N K gv2 gv3 gv4 gv5 gv6 gv7 gv8 gv9 gv10 gv11 .ret) kv)) = (Q17.b1 N (fun d0 d1 d2 d3 d4 => K (.slice true 4 0 d0 .whole 1) [⟨false, .hdr 2 gv2 gv3 gv4 gv5 none⟩, ⟨false, .hdr 3 gv6 gv7 gv8 gv9 none⟩, ⟨false, .flat 0 (.ints .i64 gv10)⟩, ⟨false, .flat 0 (.ints .i64 gv11)⟩, ⟨true, .hdr 5 0 d1 d2 d3 none⟩, ⟨true, .flat 0 (.ints .i64 d4)⟩]) (fun row18 j19 gv20 => L1 (Q17.st1 table0 other1 gv2 gv3 gv4 gv5 gv6 gv7 gv8 gv9 gv10 gv11 outv12 i13 gv14 gv15 gv16 gv17 row18 j19 gv20)) (fun ov21 ov22 => kv (.exit 2) (Q17.sx1_0 table0 other1 gv2 gv3 gv4 gv5 gv6 gv7 gv8 gv9 gv10 gv11 outv12 i13 gv14 gv15 gv16 gv17 ov21 ov22)) table0 other1 gv4 gv5 gv8 gv9 gv10 gv11 i13 row18 j19 gv20) := by kernel_rfl
theorem Q17.b1_eq {ρ : Type} (N : Nat) (K : AV → Heap → Option ρ) (L0 : St → Option ρ) (L1 : St → Option ρ) (table0 : Nat) (other1 : Nat) (gv2 : Nat) (gv3 : Nat) (gv4 : Nat → Nat) (gv5 : Nat → Nat) (gv6 : Nat) (gv7 : Nat) (gv8 : Nat → Nat) (gv9 : Nat → Nat) (gv10 : Nat → Int) (gv11 : Nat → Int) (outv12 : Nat) (i13 : Int) (gv14 : Nat) (gv15 : Nat → Nat) (gv16 : Nat → Nat) (gv17 : Nat → Int) (row18 : Nat) (j19 : Int) (gv20 : Nat → Int) :
    xcode (E17 N) ents Q17.kp 4 N (cL (cK (cB (cA (cB (cK (cA (cB (cL (cK (cB (cA (cB (cB Q17.bd)))))))))))))) 2 (Q17.st1 table0 other1 gv2 gv3 gv4 gv5 gv6 gv7 gv8 gv9 gv10 gv11 outv12 i13 gv14 gv15 gv16 gv17 row18 j19 gv20) (roundK Q17.kp 4 2 L1 (Q17.k1g N L0 (Q17.k0 N K gv2 gv3 gv4 gv5 gv6 gv7 gv8 gv9 gv10 gv11))) = (Q17.b1 N (fun d0 d1 d2 d3 d4 => K (.slice true 4 0 d0 .whole 1) [⟨false, .hdr 2 gv2 gv3 gv4 gv5 none⟩, ⟨false, .hdr 3 gv6 gv7 gv8 gv9 none⟩, ⟨false, .flat 0 (.ints .i64 gv10)⟩, ⟨false, .flat 0 (.ints .i64 gv11)⟩, ⟨true, .hdr 5 0 d1 d2 d3 none⟩, ⟨true, .flat 0 (.ints .i64 d4)⟩]) (fun row18 j19 gv20 => L1 (Q17.st1 table0 other1 gv2 gv3 gv4 gv5 gv6 gv7 gv8 gv9 gv10 gv11 outv12 i13 gv14 gv15 gv16 gv17 row18 j19 gv20)) (fun ov21 ov22 => (Q17.k1g N L0 (Q17.k0 N K gv2 gv3 gv4 gv5 gv6 gv7 gv8 gv9 gv10 gv11)) (.exit 2) (Q17.sx1_0 table0 other1 gv2 gv3 gv4 gv5 gv6 gv7 gv8 gv9 gv10 gv11 outv12 i13 gv14 gv15 gv16 gv17 ov21 ov22)) table0 other1 gv4 gv5 gv8 gv9 gv10 gv11 i13 row18 j19 gv20) := by
  have h := Q17.b1_gen N K L1 (Q17.k1g N L0 (Q17.k0 N K gv2 gv3 gv4 gv5 gv6 gv7 gv8 gv9 gv10 gv11)) table0 other1 gv2 gv3 gv4 gv5 gv6 gv7 gv8 gv9 gv10 gv11 outv12 i13 gv14 gv15 gv16 gv17 row18 j19 gv20
  rw [Q17.k1_mix] at h
  exact h
theorem Q17.a1_0_gen {ρ : Type} (N : Nat) (K : AV → Heap → Option ρ) (L0 : St → Option ρ) (kv : XE → St → Option ρ) (table0 : Nat) (other1 : Nat) (gv2 : Nat) (gv3 : Nat) (gv4 : Nat → Nat) (gv5 : Nat → Nat) (gv6 : Nat) (gv7 : Nat) (gv8 : Nat → Nat) (gv9 : Nat → Nat) (gv10 : Nat → Int) (gv11 : Nat → Int) (outv12 : Nat) (i13 : Int) (gv14 : Nat) (gv15 : Nat → Nat) (gv16 : Nat → Nat) (gv17 : Nat → Int) (ov21 : Nat) (ov22 : Nat → Int) :
    (Q17.k1g N L0 (mixK (Q17.fin N K gv2 gv3 gv4 gv5 gv6 gv7 gv8 gv9 gv10 gv11 .ret) kv)) (.exit 2) (Q17.sx1_0 table0 other1 gv2 gv3 gv4 gv5 gv6 gv7 gv8 gv9 gv10 gv11 outv12 i13 gv14 gv15 gv16 gv17 ov21 ov22) = (Q17.a1_0 N (fun d0 d1 d2 d3 d4 => K (.slice true 4 0 d0 .whole 1) [⟨false, .hdr 2 gv2 gv3 gv4 gv5 none⟩, ⟨false, .hdr 3 gv6 gv7 gv8 gv9 none⟩, ⟨false, .flat 0 (.ints .i64 gv10)⟩, ⟨false, .flat 0 (.ints .i64 gv11)⟩, ⟨true, .hdr 5 0 d1 d2 d3 none⟩, ⟨true, .flat 0 (.ints .i64 d4)⟩]) (fun outv12 i13 gv14 gv15 gv16 gv17 => L0 (Q17.st0 table0 other1 gv2 gv3 gv4 gv5 gv6 gv7 gv8 gv9 gv10 gv11 outv12 i13 gv14 gv15 gv16 gv17)) (fun ov23 ov24 ov25 ov26 ov27 => kv (.exit 0) (Q17.sx0_0 gv2 gv3 gv4 gv5 gv6 gv7 gv8 gv9 gv10 gv11 ov23 ov24 ov25 ov26 ov27)) outv12 i13 gv14 gv15 gv16 gv17 ov21 ov22) := by kernel_rfl
theorem Q17.a1_0_eq {ρ : Type} (N : Nat) (K : AV → Heap → Option ρ) (L0 : St → Option ρ) (table0 : Nat) (other1 : Nat) (gv2 : Nat) (gv3 : Nat) (gv4 : Nat → Nat) (gv5 : Nat → Nat) (gv6 : Nat) (gv7 : Nat) (gv8 : Nat → Nat) (gv9 : Nat → Nat) (gv10 : Nat → Int) (gv11 : Nat → Int) (outv12 : Nat) (i13 : Int) (gv14 : Nat) (gv15 : Nat → Nat) (gv16 : Nat → Nat) (gv17 : Nat → Int) (ov21 : Nat) (ov22 : Nat → Int) :
    (Q17.k1g N L0 (Q17.k0 N K gv2 gv3 gv4 gv5 gv6 gv7 gv8 gv9 gv10 gv11)) (.exit 2) (Q17.sx1_0 table0 other1 gv2 gv3 gv4 gv5 gv6 gv7 gv8 gv9 gv10 gv11 outv12 i13 gv14 gv15 gv16 gv17 ov21 ov22) = (Q17.a1_0 N (fun d0 d1 d2 d3 d4 => K (.slice true 4 0 d0 .whole 1) [⟨false, .hdr 2 gv2 gv3 gv4 gv5 none⟩, ⟨false, .hdr 3 gv6 gv7 gv8 gv9 none⟩, ⟨false, .flat 0 (.ints .i64 gv10)⟩, ⟨false, .flat 0 (.ints .i64 gv11)⟩, ⟨true, .hdr 5 0 d1 d2 d3 none⟩, ⟨true, .flat 0 (.ints .i64 d4)⟩]) (fun outv12 i13 gv14 gv15 gv16 gv17 => L0 (Q17.st0 table0 other1 gv2 gv3 gv4 gv5 gv6 gv7 gv8 gv9 gv10 gv11 outv12 i13 gv14 gv15 gv16 gv17)) (fun ov23 ov24 ov25 ov26 ov27 => (Q17.k0 N K gv2 gv3 gv4 gv5 gv6 gv7 gv8 gv9 gv10 gv11) (.exit 0) (Q17.sx0_0 gv2 gv3 gv4 gv5 gv6 gv7 gv8 gv9 gv10 gv11 ov23 ov24 ov25 ov26 ov27)) outv12 i13 gv14 gv15 gv16 gv17 ov21 ov22) := by
  have h := Q17.a1_0_gen N K L0 (Q17.k0 N K gv2 gv3 gv4 gv5 gv6 gv7 gv8 gv9 gv10 gv11) table0 other1 gv2 gv3 gv4 gv5 gv6 gv7 gv8 gv9 gv10 gv11 outv12 i13 gv14 gv15 gv16 gv17 ov21 ov22
  rw [Q17.k0_mix] at h
  exact h
theorem Q17.b0_gen {ρ : Type} (N : Nat) (K : AV → Heap → Option ρ) (L0 : St → Option ρ) (kv : XE → St → Option ρ) (table0 : Nat) (other1 : Nat) (gv2 : Nat) (gv3 : Nat) (gv4 : Nat → Nat) (gv5 : Nat → Nat) (gv6 : Nat) (gv7 : Nat) (gv8 : Nat → Nat) (gv9 : Nat → Nat) (gv10 : Nat → Int) (gv11 : Nat → Int) (outv12 : Nat) (i13 : Int) (gv14 : Nat) (gv15 : Nat → Nat) (gv16 : Nat → Nat) (gv17 : Nat → Int) :
    xcode (E17 N) ents Q17.kp 4 N (cL (cK (cB (cA (cB (cB Q17.bd)))))) 0 (Q17.st0 table0 other1 gv2 gv3 gv4 gv5 gv6 gv7 gv8 gv9 gv10 gv11 outv12 i13 gv14 gv15 gv16 gv17) (roundK Q17.kp 4 0 L0 (mixK (Q17.fin N K gv2 gv3 gv4 gv5 gv6 gv7 gv8 gv9 gv10 gv11 .ret) kv)) = (Q17.b0 N (fun d0 d1 d2 d3 d4 => K (.slice true 4 0 d0 .whole 1) [⟨false, .hdr 2 gv2 gv3 gv4 gv5 none⟩, ⟨false, .hdr 3 gv6 gv7 gv8 gv9 none⟩, ⟨false, .flat 0 (.ints .i64 gv10)⟩, ⟨false, .flat 0 (.ints .i64 gv11)⟩, ⟨true, .hdr 5 0 d1 d2 d3 none⟩, ⟨true, .flat 0 (.ints .i64 d4)⟩]) (fun row18 j19 gv20 => xloop (xcode (E17 N) ents Q17.kp 4 N (cL (cK (cB (cA (cB (cK (cA (cB (cL (cK (cB (cA (cB (cB Q17.bd)))))))))))))) 2) Q17.kp 4 2 N (Q17.st1 table0 other1 gv2 gv3 gv4 gv5 gv6 gv7 gv8 gv9 gv10 gv11 outv12 i13 gv14 gv15 gv16 gv17 row18 j19 gv20) (Q17.k1g N L0 (mixK (Q17.fin N K gv2 gv3 gv4 gv5 gv6 gv7 gv8 gv9 gv10 gv11 .ret) kv))) (fun outv12 i13 gv14 gv15 gv16 gv17 => L0 (Q17.st0 table0 other1 gv2 gv3 gv4 gv5 gv6 gv7 gv8 gv9 gv10 gv11 outv12 i13 gv14 gv15 gv16 gv17)) (fun ov23 ov24 ov25 ov26 ov27 => kv (.exit 0) (Q17.sx0_0 gv2 gv3 gv4 gv5 gv6 gv7 gv8 gv9 gv10 gv11 ov23 ov24 ov25 ov26 ov27)) table0 other1 outv12 i13 gv14 gv15 gv16 gv17) := by kernel_rfl
theorem Q17.b0_eq {ρ : Type} (N : Nat) (K : AV → Heap → Option ρ) (L0 : St → Option ρ) (table0 : Nat) (other1 : Nat) (gv2 : Nat) (gv3 : Nat) (gv4 : Nat → Nat) (gv5 : Nat → Nat) (gv6 : Nat) (gv7 : Nat) (gv8 : Nat → Nat) (gv9 : Nat → Nat) (gv10 : Nat → Int) (gv11 : Nat → Int) (outv12 : Nat) (i13 : Int) (gv14 : Nat) (gv15 : Nat → Nat) (gv16 : Nat → Nat) (gv17 : Nat → Int) :
    xcode (E17 N) ents Q17.kp 4 N (cL (cK (cB (cA (cB (cB Q17.bd)))))) 0 (Q17.st0 table0 other1 gv2 gv3 gv4 gv5 gv6 gv7 gv8 gv9 gv10 gv11 outv12 i13 gv14 gv15 gv16 gv17) (roundK Q17.kp 4 0 L0 (Q17.k0 N K gv2 gv3 gv4 gv5 gv6 gv7 gv8 gv9 gv10 gv11)) = (Q17.b0 N (fun d0 d1 d2 d3 d4 => K (.slice true 4 0 d0 .whole 1) [⟨false, .hdr 2 gv2 gv3 gv4 gv5 none⟩, ⟨false, .hdr 3 gv6 gv7 gv8 gv9 none⟩, ⟨false, .flat 0 (.ints .i64 gv10)⟩, ⟨false, .flat 0 (.ints .i64 gv11)⟩, ⟨true, .hdr 5 0 d1 d2 d3 none⟩, ⟨true, .flat 0 (.ints .i64 d4)⟩]) (fun row18 j19 gv20 => xloop (xcode (E17 N) ents Q17.kp 4 N (cL (cK (cB (cA (cB (cK (cA (cB (cL (cK (cB (cA (cB (cB Q17.bd)))))))))))))) 2) Q17.kp 4 2 N (Q17.st1 table0 other1 gv2 gv3 gv4 gv5 gv6 gv7 gv8 gv9 gv10 gv11 outv12 i13 gv14 gv15 gv16 gv17 row18 j19 gv20) (Q17.k1g N L0 (Q17.k0 N K gv2 gv3 gv4 gv5 gv6 gv7 gv8 gv9 gv10 gv11))) (fun outv12 i13 gv14 gv15 gv16 gv17 => L0 (Q17.st0 table0 other1 gv2 gv3 gv4 gv5 gv6 gv7 gv8 gv9 gv10 gv11 outv12 i13 gv14 gv15 gv16 gv17)) (fun ov23 ov24 ov25 ov26 ov27 => (Q17.k0 N K gv2 gv3 gv4 gv5 gv6 gv7 gv8 gv9 gv10 gv11) (.exit 0) (Q17.sx0_0 gv2 gv3 gv4 gv5 gv6 gv7 gv8 gv9 gv10 gv11 ov23 ov24 ov25 ov26 ov27)) table0 other1 outv12 i13 gv14 gv15 gv16 gv17) := by
  have h := Q17.b0_gen N K L0 (Q17.k0 N K gv2 gv3 gv4 gv5 gv6 gv7 gv8 gv9 gv10 gv11) table0 other1 gv2 gv3 gv4 gv5 gv6 gv7 gv8 gv9 gv10 gv11 outv12 i13 gv14 gv15 gv16 gv17
  rw [Q17.k0_mix] at h
  exact h
theorem Q17.a0_0_eq {ρ : Type} (N : Nat) (K : AV → Heap → Option ρ) (gv2 : Nat) (gv3 : Nat) (gv4 : Nat → Nat) (gv5 : Nat → Nat) (gv6 : Nat) (gv7 : Nat) (gv8 : Nat → Nat) (gv9 : Nat → Nat) (gv10 : Nat → Int) (gv11 : Nat → Int) (ov23 : Nat) (ov24 : Nat) (ov25 : Nat → Nat) (ov26 : Nat → Nat) (ov27 : Nat → Int) :
    (Q17.k0 N K gv2 gv3 gv4 gv5 gv6 gv7 gv8 gv9 gv10 gv11) (.exit 0) (Q17.sx0_0 gv2 gv3 gv4 gv5 gv6 gv7 gv8 gv9 gv10 gv11 ov23 ov24 ov25 ov26 ov27) = (Q17.a0_0 N (fun d0 d1 d2 d3 d4 => K (.slice true 4 0 d0 .whole 1) [⟨false, .hdr 2 gv2 gv3 gv4 gv5 none⟩, ⟨false, .hdr 3 gv6 gv7 gv8 gv9 none⟩, ⟨false, .flat 0 (.ints .i64 gv10)⟩, ⟨false, .flat 0 (.ints .i64 gv11)⟩, ⟨true, .hdr 5 0 d1 d2 d3 none⟩, ⟨true, .flat 0 (.ints .i64 d4)⟩]) ov23 ov24 ov25 ov26 ov27) := by kernel_rfl
theorem Q17.l1_eq {ρ : Type} (N : Nat) (K : AV → Heap → Option ρ) (L0 : St → Option ρ) (table0 : Nat) (other1 : Nat) (gv2 : Nat) (gv3 : Nat) (gv4 : Nat → Nat) (gv5 : Nat → Nat) (gv6 : Nat) (gv7 : Nat) (gv8 : Nat → Nat) (gv9 : Nat → Nat) (gv10 : Nat → Int) (gv11 : Nat → Int) (outv12 : Nat) (i13 : Int) (gv14 : Nat) (gv15 : Nat → Nat) (gv16 : Nat → Nat) (gv17 : Nat → Int) :
    ∀ (m : Nat) (row18 : Nat) (j19 : Int) (gv20 : Nat → Int), xloop (xcode (E17 N) ents Q17.kp 4 N (cL (cK (cB (cA (cB (cK (cA (cB (cL (cK (cB (cA (cB (cB Q17.bd)))))))))))))) 2) Q17.kp 4 2 m (Q17.st1 table0 other1 gv2 gv3 gv4 gv5 gv6 gv7 gv8 gv9 gv10 gv11 outv12 i13 gv14 gv15 gv16 gv17 row18 j19 gv20) (Q17.k1g N L0 (Q17.k0 N K gv2 gv3 gv4 gv5 gv6 gv7 gv8 gv9 gv10 gv11)) = (Q17.l1 N (fun d0 d1 d2 d3 d4 => K (.slice true 4 0 d0 .whole 1) [⟨false, .hdr 2 gv2 gv3 gv4 gv5 none⟩, ⟨false, .hdr 3 gv6 gv7 gv8 gv9 none⟩, ⟨false, .flat 0 (.ints .i64 gv10)⟩, ⟨false, .flat 0 (.ints .i64 gv11)⟩, ⟨true, .hdr 5 0 d1 d2 d3 none⟩, ⟨true, .flat 0 (.ints .i64 d4)⟩]) table0 other1 gv4 gv5 gv8 gv9 gv10 gv11 i13 (fun ov21 ov22 => (Q17.k1g N L0 (Q17.k0 N K gv2 gv3 gv4 gv5 gv6 gv7 gv8 gv9 gv10 gv11)) (.exit 2) (Q17.sx1_0 table0 other1 gv2 gv3 gv4 gv5 gv6 gv7 gv8 gv9 gv10 gv11 outv12 i13 gv14 gv15 gv16 gv17 ov21 ov22)) m row18 j19 gv20) := by
  intro m
  induction m with
  | zero => intros; rfl
  | succ m ih =>
    intro row18 j19 gv20
    refine (Q17.b1_eq N K L0 (fun s => xloop (xcode (E17 N) ents Q17.kp 4 N (cL (cK (cB (cA (cB (cK (cA (cB (cL (cK (cB (cA (cB (cB Q17.bd)))))))))))))) 2) Q17.kp 4 2 m s (Q17.k1g N L0 (Q17.k0 N K gv2 gv3 gv4 gv5 gv6 gv7 gv8 gv9 gv10 gv11))) table0 other1 gv2 gv3 gv4 gv5 gv6 gv7 gv8 gv9 gv10 gv11 outv12 i13 gv14 gv15 gv16 gv17 row18 j19 gv20).trans ?_
    simp only [ih]
    kernel_rfl
theorem Q17.l0_eq {ρ : Type} (N : Nat) (K : AV → Heap → Option ρ) (table0 : Nat) (other1 : Nat) (gv2 : Nat) (gv3 : Nat) (gv4 : Nat → Nat) (gv5 : Nat → Nat) (gv6 : Nat) (gv7 : Nat) (gv8 : Nat → Nat) (gv9 : Nat → Nat) (gv10 : Nat → Int) (gv11 : Nat → Int) :
    ∀ (m : Nat) (outv12 : Nat) (i13 : Int) (gv14 : Nat) (gv15 : Nat → Nat) (gv16 : Nat → Nat) (gv17 : Nat → Int), xloop (xcode (E17 N) ents Q17.kp 4 N (cL (cK (cB (cA (cB (cB Q17.bd)))))) 0) Q17.kp 4 0 m (Q17.st0 table0 other1 gv2 gv3 gv4 gv5 gv6 gv7 gv8 gv9 gv10 gv11 outv12 i13 gv14 gv15 gv16 gv17) (Q17.k0 N K gv2 gv3 gv4 gv5 gv6 gv7 gv8 gv9 gv10 gv11) = (Q17.l0 N (fun d0 d1 d2 d3 d4 => K (.slice true 4 0 d0 .whole 1) [⟨false, .hdr 2 gv2 gv3 gv4 gv5 none⟩, ⟨false, .hdr 3 gv6 gv7 gv8 gv9 none⟩, ⟨false, .flat 0 (.ints .i64 gv10)⟩, ⟨false, .flat 0 (.ints .i64 gv11)⟩, ⟨true, .hdr 5 0 d1 d2 d3 none⟩, ⟨true, .flat 0 (.ints .i64 d4)⟩]) table0 other1 gv4 gv5 gv8 gv9 gv10 gv11 (fun ov23 ov24 ov25 ov26 ov27 => (Q17.k0 N K gv2 gv3 gv4 gv5 gv6 gv7 gv8 gv9 gv10 gv11) (.exit 0) (Q17.sx0_0 gv2 gv3 gv4 gv5 gv6 gv7 gv8 gv9 gv10 gv11 ov23 ov24 ov25 ov26 ov27)) m outv12 i13 gv14 gv15 gv16 gv17) := by
  intro m
  induction m with
  | zero => intros; rfl
  | succ m ih =>
    intro outv12 i13 gv14 gv15 gv16 gv17
    refine (Q17.b0_eq N K (fun s => xloop (xcode (E17 N) ents Q17.kp 4 N (cL (cK (cB (cA (cB (cB Q17.bd)))))) 0) Q17.kp 4 0 m s (Q17.k0 N K gv2 gv3 gv4 gv5 gv6 gv7 gv8 gv9 gv10 gv11)) table0 other1 gv2 gv3 gv4 gv5 gv6 gv7 gv8 gv9 gv10 gv11 outv12 i13 gv14 gv15 gv16 gv17).trans ?_
    simp only [ih, Q17.l1_eq, Q17.a1_0_eq]
    kernel_rfl
theorem Q17.s_eq {ρ : Type} (N : Nat) (K : AV → Heap → Option ρ) (table0 : Nat) (other1 : Nat) (gv2 : Nat) (gv3 : Nat) (gv4 : Nat → Nat) (gv5 : Nat → Nat) (gv6 : Nat) (gv7 : Nat) (gv8 : Nat → Nat) (gv9 : Nat → Nat) (gv10 : Nat → Int) (gv11 : Nat → Int) :
    xbody (E17 N) ents Q17.kp N Try.f28 Q17.bd [.slice true 0 0 table0 .unk 1, .slice true 1 0 other1 .unk 1] [⟨false, .hdr 2 gv2 gv3 gv4 gv5 none⟩, ⟨false, .hdr 3 gv6 gv7 gv8 gv9 none⟩, ⟨false, .flat 0 (.ints .i64 gv10)⟩, ⟨false, .flat 0 (.ints .i64 gv11)⟩] K = (Q17.s N (fun d0 d1 d2 d3 d4 => K (.slice true 4 0 d0 .whole 1) [⟨false, .hdr 2 gv2 gv3 gv4 gv5 none⟩, ⟨false, .hdr 3 gv6 gv7 gv8 gv9 none⟩, ⟨false, .flat 0 (.ints .i64 gv10)⟩, ⟨false, .flat 0 (.ints .i64 gv11)⟩, ⟨true, .hdr 5 0 d1 d2 d3 none⟩, ⟨true, .flat 0 (.ints .i64 d4)⟩]) (fun outv12 i13 gv14 gv15 gv16 gv17 => xloop (xcode (E17 N) ents Q17.kp 4 N (cL (cK (cB (cA (cB (cB Q17.bd)))))) 0) Q17.kp 4 0 N (Q17.st0 table0 other1 gv2 gv3 gv4 gv5 gv6 gv7 gv8 gv9 gv10 gv11 outv12 i13 gv14 gv15 gv16 gv17) (Q17.k0 N K gv2 gv3 gv4 gv5 gv6 gv7 gv8 gv9 gv10 gv11))) := by kernel_rfl
theorem Q17.eq {ρ : Type} (N : Nat) (K : AV → Heap → Option ρ) (table0 : Nat) (other1 : Nat) (gv2 : Nat) (gv3 : Nat) (gv4 : Nat → Nat) (gv5 : Nat → Nat) (gv6 : Nat) (gv7 : Nat) (gv8 : Nat → Nat) (gv9 : Nat → Nat) (gv10 : Nat → Int) (gv11 : Nat → Int) :
    xbody (E17 N) ents Q17.kp N Try.f28 Q17.bd [.slice true 0 0 table0 .unk 1, .slice true 1 0 other1 .unk 1] [⟨false, .hdr 2 gv2 gv3 gv4 gv5 none⟩, ⟨false, .hdr 3 gv6 gv7 gv8 gv9 none⟩, ⟨false, .flat 0 (.ints .i64 gv10)⟩, ⟨false, .flat 0 (.ints .i64 gv11)⟩] K = (Q17 N (fun d0 d1 d2 d3 d4 => K (.slice true 4 0 d0 .whole 1) [⟨false, .hdr 2 gv2 gv3 gv4 gv5 none⟩, ⟨false, .hdr 3 gv6 gv7 gv8 gv9 none⟩, ⟨false, .flat 0 (.ints .i64 gv10)⟩, ⟨false, .flat 0 (.ints .i64 gv11)⟩, ⟨true, .hdr 5 0 d1 d2 d3 none⟩, ⟨true, .flat 0 (.ints .i64 d4)⟩]) table0 other1 gv2 gv3 gv4 gv5 gv6 gv7 gv8 gv9 gv10 gv11) := by
  refine (Q17.s_eq N K table0 other1 gv2 gv3 gv4 gv5 gv6 gv7 gv8 gv9 gv10 gv11).trans ?_
  simp only [Q17.l0_eq, Q17.a0_0_eq]
  kernel_rfl
def Q17.en (N : Nat) (ρ : Type) : List AV → Heap → (AV → Heap → Option ρ) → Option ρ
  | [.slice true 0 0 table0 .unk 1, .slice true 1 0 other1 .unk 1], [⟨false, .hdr 2 gv2 gv3 gv4 gv5 none⟩, ⟨false, .hdr 3 gv6 gv7 gv8 gv9 none⟩, ⟨false, .flat 0 (.ints .i64 gv10)⟩, ⟨false, .flat 0 (.ints .i64 gv11)⟩], K => (Q17 N (fun d0 d1 d2 d3 d4 => K (.slice true 4 0 d0 .whole 1) [⟨false, .hdr 2 gv2 gv3 gv4 gv5 none⟩, ⟨false, .hdr 3 gv6 gv7 gv8 gv9 none⟩, ⟨false, .flat 0 (.ints .i64 gv10)⟩, ⟨false, .flat 0 (.ints .i64 gv11)⟩, ⟨true, .hdr 5 0 d1 d2 d3 none⟩, ⟨true, .flat 0 (.ints .i64 d4)⟩]) table0 other1 gv2 gv3 gv4 gv5 gv6 gv7 gv8 gv9 gv10 gv11)
  | _, _, _ => none
theorem Q17.en_ok (N : Nat) (hE : EnvOk (E17 N) ents) (ρ : Type) (args : List AV) (sh : Heap) (K : AV → Heap → Option ρ) (r : ρ) (h : Q17.en N ρ args sh K = some r) : ∃ v sh', K v sh' = some r ∧ FnOk (E17 N).P 28 args sh v sh' := by
  unfold Q17.en at h
  split at h
  · exact fn_ok hE (kp := Q17.kp) (N := N) Try.func28 (c := Q17.bd) (by kernel_rfl) ((Q17.eq N _ _ _ _ _ _ _ _ _ _ _ _ _).trans h)
  · cases h
def E18 (N : Nat) : Env := (E17 N).add 28 (Q17.en N)
theorem E18_ok (N : Nat) : EnvOk (E18 N) ents := Env.add_ok (E17_ok N) (Q17.en_ok N (E17_ok N))
def Q18.kp : Keeps := ⟨[(0, [0, 3, 4], [], []), (2, [0, 3, 4, 5, 6], [], [])], [(0, [3], [], []), (2, [0, 3, 4, 5], [], [])], []⟩
def Q18.bd : Code := bodyOf Try.f30
def Q18.fin {ρ : Type} (N : Nat) (K : AV → Heap → Option ρ) : XE → St → Option ρ := finK (E18 N) Q18.kp.fins Try.f30 [] K
def Q18.k0 {ρ : Type} (N : Nat) (K : AV → Heap → Option ρ) : XE → St → Option ρ := (blockK Q18.kp 0 0 (seqK (xcode (E18 N) ents Q18.kp 0 N (cB (cB (cB Q18.bd))) 0) (Q18.fin N K)))
theorem Q18.k0_mix {ρ : Type} (N : Nat) (K : AV → Heap → Option ρ) : mixK (Q18.fin N K .ret) (Q18.k0 N K) = (Q18.k0 N K) := by
  funext e s; cases e <;> kernel_rfl
def Q18.st0 (nv0 : Int) (outv1 : Nat) (i2 : Int) (gv3 : Nat) (gv4 : Nat → Nat) (gv5 : Nat → Nat) (gv6 : Nat → Int) : St := ⟨sl 55 [(0, .int .i64 (nv0)), (3, .slice true 0 0 outv1 .whole 1), (4, .int .i64 (i2))], [⟨true, .hdr 1 0 gv3 gv4 gv5 none⟩, ⟨true, .flat 0 (.ints .i64 gv6)⟩]⟩
def Q18.sx0_0 (ov12 : Nat) (ov13 : Nat) (ov14 : Nat → Nat) (ov15 : Nat → Nat) (ov16 : Nat → Int) : St := ⟨sl 55 [(3, .slice true 0 0 ov12 .whole 1)], [⟨true, .hdr 1 0 ov13 ov14 ov15 none⟩, ⟨true, .flat 0 (.ints .i64 ov16)⟩]⟩
def Q18.k1g {ρ : Type} (N : Nat) (L0 : St → Option ρ) (kv : XE → St → Option ρ) : XE → St → Option ρ := (blockK Q18.kp 0 2 (seqK (xcode (E18 N) ents Q18.kp 0 N (cB (cB (cK (cA (cB (cL (cK (cB (cA (cB (cB Q18.bd))))))))))) 1) (blockK Q18.kp 0 1 (seqK (xcode (E18 N) ents Q18.kp 0 N (cB (cB (cL (cK (cB (cA (cB (cB Q18.bd)))))))) 0) (roundK Q18.kp 0 0 L0 kv)))))
theorem Q18.k1_mix {ρ : Type} (N : Nat) (K : AV → Heap → Option ρ) (L0 : St → Option ρ) : mixK (Q18.fin N K .ret) (Q18.k1g N L0 (Q18.k0 N K)) = (Q18.k1g N L0 (Q18.k0 N K)) := by
  funext e s; cases e <;> kernel_rfl
def Q18.st1 (nv0 : Int) (outv1 : Nat) (i2 : Int) (gv3 : Nat) (gv4 : Nat → Nat) (gv5 : Nat → Nat) (gv6 : Nat → Int) (row7 : Nat) (j8 : Int) (gv9 : Nat → Int) : St := ⟨sl 55 [(0, .int .i64 (nv0)), (3, .slice true 0 0 outv1 .whole 1), (4, .int .i64 (i2)), (5, .slice true 1 0 row7 .whole 1), (6, .int .i64 (j8))], [⟨true, .hdr 2 0 gv3 gv4 gv5 none⟩, ⟨true, .flat 0 (.ints .i64 gv9)⟩, ⟨true, .flat 0 (.ints .i64 gv6)⟩]⟩
def Q18.sx1_0 (nv0 : Int) (outv1 : Nat) (i2 : Int) (gv3 : Nat) (gv4 : Nat → Nat) (gv5 : Nat → Nat) (gv6 : Nat → Int) (ov10 : Nat) (ov11 : Nat → Int) : St := ⟨sl 55 [(0, .int .i64 (nv0)), (3, .slice true 0 0 outv1 .whole 1), (4, .int .i64 (i2)), (5, .slice true 1 0 ov10 .whole 1)], [⟨true, .hdr 2 0 gv3 gv4 gv5 none⟩, ⟨true, .flat 0 (.ints .i64 ov11)⟩, ⟨true, .flat 0 (.ints .i64 gv6)⟩]⟩
theorem Q18.b1_gen {ρ : Type} (N : Nat) (K : AV → Heap → Option ρ) (L1 : St → Option ρ) (kv : XE → St → Option ρ) (nv0 : Int) (outv1 : Nat) (i2 : Int) (gv3 : Nat) (gv4 : Nat → Nat) (gv5 : Nat → Nat) (gv6 : Nat → Int) (row7 : Nat) (j8 : Int) (gv9 : Nat → Int) :
    xcode (E18 N) ents Q18.kp 0 N (cL (cK (cB (cA (cB (cK (cA (cB (cL (cK (cB (cA (cB (cB Q18.bd)))))))))))))) 2 (Q18.st1 nv0 outv1 i2 gv3 gv4 gv5 gv6 row7 j8 gv9) (roundK Q18.kp 0 2 L1 (mixK (Q18.fin N K .ret) kv)) = (Q18.b1 N (fun d0 d1 d2 d3 d4 => K (.slice true 0 0 d0 .whole 1) [⟨true, .hdr 1 0 d1 d2 d3 none⟩, ⟨true, .flat 0 (.ints .i64 d4)⟩]) (fun row7 j8 gv9 => L1 (Q18.st1 nv0 outv1 i2 gv3 gv4 gv5 gv6 row7 j8 gv9)) (fun ov10 ov11 => kv (.exit 2) (Q18.sx1_0 nv0 outv1 i2 gv3 gv4 gv5 gv6 ov10 ov11)) nv0 i2 row7 j8 gv9) := by kernel_rfl
theorem Q18.b1_eq {ρ : Type} (N : Nat) (K : AV → Heap → Option ρ) (L0 : St → Option ρ) (L1 : St → Option ρ) (nv0 : Int) (outv1 : Nat) (i2 : Int) (gv3 : Nat) (gv4 : Nat → Nat) (gv5 : Nat → Nat) (gv6 : Nat → Int) (row7 : Nat) (j8 : Int) (gv9 : Nat → Int) :
    xcode (E18 N) ents Q18.kp 0 N (cL (cK (cB (cA (cB (cK (cA (cB (cL (cK (cB (cA (cB (cB Q18.bd)))))))))))))) 2 (Q18.st1 nv0 outv1 i2 gv3 gv4 gv5 gv6 row7 j8 gv9) (roundK Q18.kp 0 2 L1 (Q18.k1g N L0 (Q18.k0 N K))) = (Q18.b1 N (fun d0 d1 d2 d3 d4 => K (.slice true 0 0 d0 .whole 1) [⟨true, .hdr 1 0 d1 d2 d3 none⟩, ⟨true, .flat 0 (.ints .i64 d4)⟩]) (fun row7 j8 gv9 => L1 (Q18.st1 nv0 outv1 i2 gv3 gv4 gv5 gv6 row7 j8 gv9)) (fun ov10 ov11 => (Q18.k1g N L0 (Q18.k0 N K)) (.exit 2) (Q18.sx1_0 nv0 outv1 i2 gv3 gv4 gv5 gv6 ov10 ov11)) nv0 i2 row7 j8 gv9) := by
  have h := Q18.b1_gen N K L1 (Q18.k1g N L0 (Q18.k0 N K)) nv0 outv1 i2 gv3 gv4 gv5 gv6 row7 j8 gv9
  rw [Q18.k1_mix] at h
  exact h
theorem Q18.a1_0_gen {ρ : Type} (N : Nat) (K : AV → Heap → Option ρ) (L0 : St → Option ρ) (kv : XE → St → Option ρ) (nv0 : Int) (outv1 : Nat) (i2 : Int) (gv3 : Nat) (gv4 : Nat → Nat) (gv5 : Nat → Nat) (gv6 : Nat → Int) (ov10 : Nat) (ov11 : Nat → Int) :
    (Q18.k1g N L0 (mixK (Q18.fin N K .ret) kv)) (.exit 2) (Q18.sx1_0 nv0 outv1 i2 gv3 gv4 gv5 gv6 ov10 ov11) = (Q18.a1_0 N (fun d0 d1 d2 d3 d4 => K (.slice true 0 0 d0 .whole 1) [⟨true, .hdr 1 0 d1 d2 d3 none⟩, ⟨true, .flat 0 (.ints .i64 d4)⟩]) (fun outv1 i2 gv3 gv4 gv5 gv6 => L0 (Q18.st0 nv0 outv1 i2 gv3 gv4 gv5 gv6)) (fun ov12 ov13 ov14 ov15 ov16 => kv (.exit 0) (Q18.sx0_0 ov12 ov13 ov14 ov15 ov16)) outv1 i2 gv3 gv4 gv5 gv6 ov10 ov11) := by kernel_rfl
theorem Q18.a1_0_eq {ρ : Type} (N : Nat) (K : AV → Heap → Option ρ) (L0 : St → Option ρ) (nv0 : Int) (outv1 : Nat) (i2 : Int) (gv3 : Nat) (gv4 : Nat → Nat) (gv5 : Nat → Nat) (gv6 : Nat → Int) (ov10 : Nat) (ov11 : Nat → Int) :
    (Q18.k1g N L0 (Q18.k0 N K)) (.exit 2) (Q18.sx1_0 nv0 outv1 i2 gv3 gv4 gv5 gv6 ov10 ov11) = (Q18.a1_0 N (fun d0 d1 d2 d3 d4 => K (.slice true 0 0 d0 .whole 1) [⟨true, .hdr 1 0 d1 d2 d3 none⟩, ⟨true, .flat 0 (.ints .i64 d4)⟩]) (fun outv1 i2 gv3 gv4 gv5 gv6 => L0 (Q18.st0 nv0 outv1 i2 gv3 gv4 gv5 gv6)) (fun ov12 ov13 ov14 ov15 ov16 => (Q18.k0 N K) (.exit 0) (Q18.sx0_0 ov12 ov13 ov14 ov15 ov16)) outv1 i2 gv3 gv4 gv5 gv6 ov10 ov11) := by
  have h := Q18.a1_0_gen N K L0 (Q18.k0 N K) nv0 outv1 i2 gv3 gv4 gv5 gv6 ov10 ov11
  rw [Q18.k0_mix] at h
  exact h
theorem Q18.b0_gen {ρ : Type} (N : Nat) (K : AV → Heap → Option ρ) (L0 : St → Option ρ) (kv : XE → St → Option ρ) (nv0 : Int) (outv1 : Nat) (i2 : Int) (gv3 : Nat) (gv4 : Nat → Nat) (gv5 : Nat → Nat) (gv6 : Nat → Int) :
    xcode (E18 N) ents Q18.kp 0 N (cL (cK (cB (cA (cB (cB Q18.bd)))))) 0 (Q18.st0 nv0 outv1 i2 gv3 gv4 gv5 gv6) (roundK Q18.kp 0 0 L0 (mixK (Q18.fin N K .ret) kv)) = (Q18.b0 N (fun d0 d1 d2 d3 d4 => K (.slice true 0 0 d0 .whole 1) [⟨true, .hdr 1 0 d1 d2 d3 none⟩, ⟨true, .flat 0 (.ints .i64 d4)⟩]) (fun row7 j8 gv9 => xloop (xcode (E18 N) ents Q18.kp 0 N (cL (cK (cB (cA (cB (cK (cA (cB (cL (cK (cB (cA (cB (cB Q18.bd)))))))))))))) 2) Q18.kp 0 2 N (Q18.st1 nv0 outv1 i2 gv3 gv4 gv5 gv6 row7 j8 gv9) (Q18.k1g N L0 (mixK (Q18.fin N K .ret) kv))) (fun outv1 i2 gv3 gv4 gv5 gv6 => L0 (Q18.st0 nv0 outv1 i2 gv3 gv4 gv5 gv6)) (fun ov12 ov13 ov14 ov15 ov16 => kv (.exit 0) (Q18.sx0_0 ov12 ov13 ov14 ov15 ov16)) nv0 outv1 i2 gv3 gv4 gv5 gv6) := by kernel_rfl
theorem Q18.b0_eq {ρ : Type} (N : Nat) (K : AV → Heap → Option ρ) (L0 : St → Option ρ) (nv0 : Int) (outv1 : Nat) (i2 : Int) (gv3 : Nat) (gv4 : Nat → Nat) (gv5 : Nat → Nat) (gv6 : Nat → Int) :
    xcode (E18 N) ents Q18.kp 0 N (cL (cK (cB (cA (cB (cB Q18.bd)))))) 0 (Q18.st0 nv0 outv1 i2 gv3 gv4 gv5 gv6) (roundK Q18.kp 0 0 L0 (Q18.k0 N K)) = (Q18.b0 N (fun d0 d1 d2 d3 d4 => K (.slice true 0 0 d0 .whole 1) [⟨true, .hdr 1 0 d1 d2 d3 none⟩, ⟨true, .flat 0 (.ints .i64 d4)⟩]) (fun row7 j8 gv9 => xloop (xcode (E18 N) ents Q18.kp 0 N (cL (cK (cB (cA (cB (cK (cA (cB (cL (cK (cB (cA (cB (cB Q18.bd)))))))))))))) 2) Q18.kp 0 2 N (Q18.st1 nv0 outv1 i2 gv3 gv4 gv5 gv6 row7 j8 gv9) (Q18.k1g N L0 (Q18.k0 N K))) (fun outv1 i2 gv3 gv4 gv5 gv6 => L0 (Q18.st0 nv0 outv1 i2 gv3 gv4 gv5 gv6)) (fun ov12 ov13 ov14 ov15 ov16 => (Q18.k0 N K) (.exit 0) (Q18.sx0_0 ov12 ov13 ov14 ov15 ov16)) nv0 outv1 i2 gv3 gv4 gv5 gv6) := by
  have h := Q18.b0_gen N K L0 (Q18.k0 N K) nv0 outv1 i2 gv3 gv4 gv5 gv6
  rw [Q18.k0_mix] at h
  exact h
theorem Q18.a0_0_eq {ρ : Type} (N : Nat) (K : AV → Heap → Option ρ) (ov12 : Nat) (ov13 : Nat) (ov14 : Nat → Nat) (ov15 : Nat → Nat) (ov16 : Nat → Int) :
    (Q18.k0 N K) (.exit 0) (Q18.sx0_0 ov12 ov13 ov14 ov15 ov16) = (Q18.a0_0 N (fun d0 d1 d2 d3 d4 => K (.slice true 0 0 d0 .whole 1) [⟨true, .hdr 1 0 d1 d2 d3 none⟩, ⟨true, .flat 0 (.ints .i64 d4)⟩]) ov12 ov13 ov14 ov15 ov16) := by kernel_rfl
theorem Q18.l1_eq {ρ : Type} (N : Nat) (K : AV → Heap → Option ρ) (L0 : St → Option ρ) (nv0 : Int) (outv1 : Nat) (i2 : Int) (gv3 : Nat) (gv4 : Nat → Nat) (gv5 : Nat → Nat) (gv6 : Nat → Int) :
    ∀ (m : Nat) (row7 : Nat) (j8 : Int) (gv9 : Nat → Int), xloop (xcode (E18 N) ents Q18.kp 0 N (cL (cK (cB (cA (cB (cK (cA (cB (cL (cK (cB (cA (cB (cB Q18.bd)))))))))))))) 2) Q18.kp 0 2 m (Q18.st1 nv0 outv1 i2 gv3 gv4 gv5 gv6 row7 j8 gv9) (Q18.k1g N L0 (Q18.k0 N K)) = (Q18.l1 N (fun d0 d1 d2 d3 d4 => K (.slice true 0 0 d0 .whole 1) [⟨true, .hdr 1 0 d1 d2 d3 none⟩, ⟨true, .flat 0 (.ints .i64 d4)⟩]) nv0 i2 (fun ov10 ov11 => (Q18.k1g N L0 (Q18.k0 N K)) (.exit 2) (Q18.sx1_0 nv0 outv1 i2 gv3 gv4 gv5 gv6 ov10 ov11)) m row7 j8 gv9) := by
  intro m
  induction m with
  | zero => intros; rfl
  | succ m ih =>
    intro row7 j8 gv9
    refine (Q18.b1_eq N K L0 (fun s => xloop (xcode (E18 N) ents Q18.kp 0 N (cL (cK (cB (cA (cB (cK (cA (cB (cL (cK (cB (cA (cB (cB Q18.bd)))))))))))))) 2) Q18.kp 0 2 m s (Q18.k1g N L0 (Q18.k0 N K))) nv0 outv1 i2 gv3 gv4 gv5 gv6 row7 j8 gv9).trans ?_
    simp only [ih]
    kernel_rfl
theorem Q18.l0_eq {ρ : Type} (N : Nat) (K : AV → Heap → Option ρ) (nv0 : Int) :
    ∀ (m : Nat) (outv1 : Nat) (i2 : Int) (gv3 : Nat) (gv4 : Nat → Nat) (gv5 : Nat → Nat) (gv6 : Nat → Int), xloop (xcode (E18 N) ents Q18.kp 0 N (cL (cK (cB (cA (cB (cB Q18.bd)))))) 0) Q18.kp 0 0 m (Q18.st0 nv0 outv1 i2 gv3 gv4 gv5 gv6) (Q18.k0 N K) = (Q18.l0 N (fun d0 d1 d2 d3 d4 => K (.slice true 0 0 d0 .whole 1) [⟨true, .hdr 1 0 d1 d2 d3 none⟩, ⟨true, .flat 0 (.ints .i64 d4)⟩]) nv0 (fun ov12 ov13 ov14 ov15 ov16 => (Q18.k0 N K) (.exit 0) (Q18.sx0_0 ov12 ov13 ov14 ov15 ov16)) m outv1 i2 gv3 gv4 gv5 gv6) := by
  intro m
  induction m with
  | zero => intros; rfl
  | succ m ih =>
    intro outv1 i2 gv3 gv4 gv5 gv6
    refine (Q18.b0_eq N K (fun s => xloop (xcode (E18 N) ents Q18.kp 0 N (cL (cK (cB (cA (cB (cB Q18.bd)))))) 0) Q18.kp 0 0 m s (Q18.k0 N K)) nv0 outv1 i2 gv3 gv4 gv5 gv6).trans ?_
    simp only [ih, Q18.l1_eq, Q18.a1_0_eq]
    kernel_rfl
theorem Q18.s_eq {ρ : Type} (N : Nat) (K : AV → Heap → Option ρ) (nv0 : Int) :
    xbody (E18 N) ents Q18.kp N Try.f30 Q18.bd [.int .i64 (nv0)] [] K = (Q18.s N (fun d0 d1 d2 d3 d4 => K (.slice true 0 0 d0 .whole 1) [⟨true, .hdr 1 0 d1 d2 d3 none⟩, ⟨true, .flat 0 (.ints .i64 d4)⟩]) (fun outv1 i2 gv3 gv4 gv5 gv6 => xloop (xcode (E18 N) ents Q18.kp 0 N (cL (cK (cB (cA (cB (cB Q18.bd)))))) 0) Q18.kp 0 0 N (Q18.st0 nv0 outv1 i2 gv3 gv4 gv5 gv6) (Q18.k0 N K))) := by kernel_rfl
theorem Q18.eq {ρ : Type} (N : Nat) (K : AV → Heap → Option ρ) (nv0 : Int) :
    xbody (E18 N) ents Q18.kp N Try.f30 Q18.bd [.int .i64 (nv0)] [] K = (Q18 N (fun d0 d1 d2 d3 d4 => K (.slice true 0 0 d0 .whole 1) [⟨true, .hdr 1 0 d1 d2 d3 none⟩, ⟨true, .flat 0 (.ints .i64 d4)⟩]) nv0) := by
  refine (Q18.s_eq N K nv0).trans ?_
  simp only [Q18.l0_eq, Q18.a0_0_eq]
  kernel_rfl
def Q18.en (N : Nat) (ρ : Type) : List AV → Heap → (AV → Heap → Option ρ) → Option ρ
  | [.int .i64 (nv0)], [], K => (Q18 N (fun d0 d1 d2 d3 d4 => K (.slice true 0 0 d0 .whole 1) [⟨true, .hdr 1 0 d1 d2 d3 none⟩, ⟨true, .flat 0 (.ints .i64 d4)⟩]) nv0)
  | _, _, _ => none
theorem Q18.en_ok (N : Nat) (hE : EnvOk (E18 N) ents) (ρ : Type) (args : List AV) (sh : Heap) (K : AV → Heap → Option ρ) (r : ρ) (h : Q18.en N ρ args sh K = some r) : ∃ v sh', K v sh' = some r ∧ FnOk (E18 N).P 30 args sh v sh' := by
  unfold Q18.en at h
  split at h
  · exact fn_ok hE (kp := Q18.kp) (N := N) Try.func30 (c := Q18.bd) (by kernel_rfl) ((Q18.eq N _ _).trans h)
  · cases h
def E19 (N : Nat) : Env := (E18 N).add 30 (Q18.en N)
theorem E19_ok (N : Nat) : EnvOk (E19 N) ents := Env.add_ok (E18_ok N) (Q18.en_ok N (E18_ok N))
def Q19.kp : Keeps := ⟨[(0, [1, 2], [], []), (2, [1, 2, 3, 4], [], [])], [(0, [1], [], []), (2, [1, 2, 3], [], [])], []⟩
def Q19.bd : Code := bodyOf Try.f31
def Q19.fin {ρ : Type} (N : Nat) (K : AV → Heap → Option ρ) : XE → St → Option ρ := finK (E19 N) Q19.kp.fins Try.f31 [] K
def Q19.k0 {ρ : Type} (N : Nat) (K : AV → Heap → Option ρ) : XE → St → Option ρ := (blockK Q19.kp 0 0 (seqK (xcode (E19 N) ents Q19.kp 0 N (cB (cB (cB Q19.bd))) 0) (Q19.fin N K)))
theorem Q19.k0_mix {ρ : Type} (N : Nat) (K : AV → Heap → Option ρ) : mixK (Q19.fin N K .ret) (Q19.k0 N K) = (Q19.k0 N K) := by
  funext e s; cases e <;> kernel_rfl
def Q19.st0 (outv0 : Nat) (i1 : Int) (gv2 : Nat) (gv3 : Nat → Nat) (gv4 : Nat → Nat) (gv5 : Nat → Int) : St := ⟨sl 71 [(1, .slice true 0 0 outv0 .whole 1), (2, .int .i64 (i1))], [⟨true, .hdr 1 0 gv2 gv3 gv4 none⟩, ⟨true, .flat 0 (.ints .i64 gv5)⟩]⟩
def Q19.sx0_0 (ov11 : Nat) (ov12 : Nat) (ov13 : Nat → Nat) (ov14 : Nat → Nat) (ov15 : Nat → Int) : St := ⟨sl 71 [(1, .slice true 0 0 ov11 .whole 1)], [⟨true, .hdr 1 0 ov12 ov13 ov14 none⟩, ⟨true, .flat 0 (.ints .i64 ov15)⟩]⟩
def Q19.k1g {ρ : Type} (N : Nat) (L0 : St → Option ρ) (kv : XE → St → Option ρ) : XE → St → Option ρ := (blockK Q19.kp 0 2 (seqK (xcode (E19 N) ents Q19.kp 0 N (cB (cB (cK (cA (cB (cL (cK (cB (cA (cB (cB Q19.bd))))))))))) 1) (blockK Q19.kp 0 1 (seqK (xcode (E19 N) ents Q19.kp 0 N (cB (cB (cL (cK (cB (cA (cB (cB Q19.bd)))))))) 0) (roundK Q19.kp 0 0 L0 kv)))))
theorem Q19.k1_mix {ρ : Type} (N : Nat) (K : AV → Heap → Option ρ) (L0 : St → Option ρ) : mixK (Q19.fin N K .ret) (Q19.k1g N L0 (Q19.k0 N K)) = (Q19.k1g N L0 (Q19.k0 N K)) := by
  funext e s; cases e <;> kernel_rfl
def Q19.st1 (outv0 : Nat) (i1 : Int) (gv2 : Nat) (gv3 : Nat → Nat) (gv4 : Nat → Nat) (gv5 : Nat → Int) (row6 : Nat) (j7 : Int) (gv8 : Nat → Int) : St := ⟨sl 71 [(1, .slice true 0 0 outv0 .whole 1), (2, .int .i64 (i1)), (3, .slice true 1 0 row6 .whole 1), (4, .int .i64 (j7))], [⟨true, .hdr 2 0 gv2 gv3 gv4 none⟩, ⟨true, .flat 0 (.ints .i64 gv8)⟩, ⟨true, .flat 0 (.ints .i64 gv5)⟩]⟩
def Q19.sx1_0 (outv0 : Nat) (i1 : Int) (gv2 : Nat) (gv3 : Nat → Nat) (gv4 : Nat → Nat) (gv5 : Nat → Int) (ov9 : Nat) (ov10 : Nat → Int) : St := ⟨sl 71 [(1, .slice true 0 0 outv0 .whole 1), (2, .int .i64 (i1)), (3, .slice true 1 0 ov9 .whole 1)], [⟨true, .hdr 2 0 gv2 gv3 gv4 none⟩, ⟨true, .flat 0 (.ints .i64 ov10)⟩, ⟨true, .flat 0 (.ints .i64 gv5)⟩]⟩
theorem Q19.b1_gen {ρ : Type} (N : Nat) (K : AV → Heap → Option ρ) (L1 : St → Option ρ) (kv : XE → St → Option ρ) (outv0 : Nat) (i1 : Int) (gv2 : Nat) (gv3 : Nat → Nat) (gv4 : Nat → Nat) (gv5 : Nat → Int) (row6 : Nat) (j7 : Int) (gv8 : Nat → Int) :
    xcode (E19 N) ents Q19.kp 0 N (cL (cK (cB (cA (cB (cK (cA (cB (cL (cK (cB (cA (cB (cB Q19.bd)))))))))))))) 2 (Q19.st1 outv0 i1 gv2 gv3 gv4 gv5 row6 j7 gv8) (roundK Q19.kp 0 2 L1 (mixK (Q19.fin N K .ret) kv)) = (Q19.b1 N (fun d0 d1 d2 d3 d4 => K (.slice true 0 0 d0 .whole 1) [⟨true, .hdr 1 0 d1 d2 d3 none⟩, ⟨true, .flat 0 (.ints .i64 d4)⟩]) (fun row6 j7 gv8 => L1 (Q19.st1 outv0 i1 gv2 gv3 gv4 gv5 row6 j7 gv8)) (fun ov9 ov10 => kv (.exit 2) (Q19.sx1_0 outv0 i1 gv2 gv3 gv4 gv5 ov9 ov10)) i1 row6 j7 gv8) := by kernel_rfl
theorem Q19.b1_eq {ρ : Type} (N : Nat) (K : AV → Heap → Option ρ) (L0 : St → Option ρ) (L1 : St → Option ρ) (outv0 : Nat) (i1 : Int) (gv2 : Nat) (gv3 : Nat → Nat) (gv4 : Nat → Nat) (gv5 : Nat → Int) (row6 : Nat) (j7 : Int) (gv8 : Nat → Int) :
    xcode (E19 N) ents Q19.kp 0 N (cL (cK (cB (cA (cB (cK (cA (cB (cL (cK (cB (cA (cB (cB Q19.bd)))))))))))))) 2 (Q19.st1 outv0 i1 gv2 gv3 gv4 gv5 row6 j7 gv8) (roundK Q19.kp 0 2 L1 (Q19.k1g N L0 (Q19.k0 N K))) = (Q19.b1 N (fun d0 d1 d2 d3 d4 => K (.slice true 0 0 d0 .whole 1) [⟨true, .hdr 1 0 d1 d2 d3 none⟩, ⟨true, .flat 0 (.ints .i64 d4)⟩]) (fun row6 j7 gv8 => L1 (Q19.st1 outv0 i1 gv2 gv3 gv4 gv5 row6 j7 gv8)) (fun ov9 ov10 => (Q19.k1g N L0 (Q19.k0 N K)) (.exit 2) (Q19.sx1_0 outv0 i1 gv2 gv3 gv4 gv5 ov9 ov10)) i1 row6 j7 gv8) := by
  have h := Q19.b1_gen N K L1 (Q19.k1g N L0 (Q19.k0 N K)) outv0 i1 gv2 gv3 gv4 gv5 row6 j7 gv8
  rw [Q19.k1_mix] at h
  exact h
theorem Q19.a1_0_gen {ρ : Type} (N : Nat) (K : AV → Heap → Option ρ) (L0 : St → Option ρ) (kv : XE → St → Option ρ) (outv0 : Nat) (i1 : Int) (gv2 : Nat) (gv3 : Nat → Nat) (gv4 : Nat → Nat) (gv5 : Nat → Int) (ov9 : Nat) (ov10 : Nat → Int) :
    (Q19.k1g N L0 (mixK (Q19.fin N K .ret) kv)) (.exit 2) (Q19.sx1_0 outv0 i1 gv2 gv3 gv4 gv5 ov9 ov10) = (Q19.a1_0 N (fun d0 d1 d2 d3 d4 => K (.slice true 0 0 d0 .whole 1) [⟨true, .hdr 1 0 d1 d2 d3 none⟩, ⟨true, .flat 0 (.ints .i64 d4)⟩]) (fun outv0 i1 gv2 gv3 gv4 gv5 => L0 (Q19.st0 outv0 i1 gv2 gv3 gv4 gv5)) (fun ov11 ov12 ov13 ov14 ov15 => kv (.exit 0) (Q19.sx0_0 ov11 ov12 ov13 ov14 ov15)) outv0 i1 gv2 gv3 gv4 gv5 ov9 ov10) := by kernel_rfl
theorem Q19.a1_0_eq {ρ : Type} (N : Nat) (K : AV → Heap → Option ρ) (L0 : St → Option ρ) (outv0 : Nat) (i1 : Int) (gv2 : Nat) (gv3 : Nat → Nat) (gv4 : Nat → Nat) (gv5 : Nat → Int) (ov9 : Nat) (ov10 : Nat → Int) :
    (Q19.k1g N L0 (Q19.k0 N K)) (.exit 2) (Q19.sx1_0 outv0 i1 gv2 gv3 gv4 gv5 ov9 ov10) = (Q19.a1_0 N (fun d0 d1 d2 d3 d4 => K (.slice true 0 0 d0 .whole 1) [⟨true, .hdr 1 0 d1 d2 d3 none⟩, ⟨true, .flat 0 (.ints .i64 d4)⟩]) (fun outv0 i1 gv2 gv3 gv4 gv5 => L0 (Q19.st0 outv0 i1 gv2 gv3 gv4 gv5)) (fun ov11 ov12 ov13 ov14 ov15 => (Q19.k0 N K) (.exit 0) (Q19.sx0_0 ov11 ov12 ov13 ov14 ov15)) outv0 i1 gv2 gv3 gv4 gv5 ov9 ov10) := by
  have h := Q19.a1_0_gen N K L0 (Q19.k0 N K) outv0 i1 gv2 gv3 gv4 gv5 ov9 ov10
  rw [Q19.k0_mix] at h
  exact h
theorem Q19.b0_gen {ρ : Type} (N : Nat) (K : AV → Heap → Option ρ) (L0 : St → Option ρ) (kv : XE → St → Option ρ) (outv0 : Nat) (i1 : Int) (gv2 : Nat) (gv3 : Nat → Nat) (gv4 : Nat → Nat) (gv5 : Nat → Int) :
    xcode (E19 N) ents Q19.kp 0 N (cL (cK (cB (cA (cB (cB Q19.bd)))))) 0 (Q19.st0 outv0 i1 gv2 gv3 gv4 gv5) (roundK Q19.kp 0 0 L0 (mixK (Q19.fin N K .ret) kv)) = (Q19.b0 N (fun d0 d1 d2 d3 d4 => K (.slice true 0 0 d0 .whole 1) [⟨true, .hdr 1 0 d1 d2 d3 none⟩, ⟨true, .flat 0 (.ints .i64 d4)⟩]) (fun row6 j7 gv8 => xloop (xcode (E19 N) ents Q19.kp 0 N (cL (cK (cB (cA (cB (cK (cA (cB (cL (cK (cB (cA (cB (cB Q19.bd)))))))))))))) 2) Q19.kp 0 2 N (Q19.st1 outv0 i1 gv2 gv3 gv4 gv5 row6 j7 gv8) (Q19.k1g N L0 (mixK (Q19.fin N K .ret) kv))) (fun outv0 i1 gv2 gv3 gv4 gv5 => L0 (Q19.st0 outv0 i1 gv2 gv3 gv4 gv5)) (fun ov11 ov12 ov13 ov14 ov15 => kv (.exit 0) (Q19.sx0_0 ov11 ov12 ov13 ov14 ov15)) outv0 i1 gv2 gv3 gv4 gv5) := by kernel_rfl
theorem Q19.b0_eq {ρ : Type} (N : Nat) (K : AV → Heap → Option ρ) (L0 : St → Option ρ) (outv0 : Nat) (i1 : Int) (gv2 : Nat) (gv3 : Nat → Nat) (gv4 : Nat → Nat) (gv5 : Nat → Int) :
    xcode (E19 N) ents Q19.kp 0 N (cL (cK (cB (cA (cB (cB Q19.bd)))))) 0 (Q19.st0 outv0 i1 gv2 gv3 gv4 gv5) (roundK Q19.kp 0 0 L0 (Q19.k0 N K)) = (Q19.b0 N (fun d0 d1 d2 d3 d4 => K (.slice true 0 0 d0 .whole 1) [⟨true, .hdr 1 0 d1 d2 d3 none⟩, ⟨true, .flat 0 (.ints .i64 d4)⟩]) (fun row6 j7 gv8 => xloop (xcode (E19 N) ents Q19.kp 0 N (cL (cK (cB (cA (cB (cK (cA (cB (cL (cK (cB (cA (cB (cB Q19.bd)))))))))))))) 2) Q19.kp 0 2 N (Q19.st1 outv0 i1 gv2 gv3 gv4 gv5 row6 j7 gv8) (Q19.k1g N L0 (Q19.k0 N K))) (fun outv0 i1 gv2 gv3 gv4 gv5 => L0 (Q19.st0 outv0 i1 gv2 gv3 gv4 gv5)) (fun ov11 ov12 ov13 ov14 ov15 => (Q19.k0 N K) (.exit 0) (Q19.sx0_0 ov11 ov12 ov13 ov14 ov15)) outv0 i1 gv2 gv3 gv4 gv5) := by
  have h := Q19.b0_gen N K L0 (Q19.k0 N K) outv0 i1 gv2 gv3 gv4 gv5
  rw [Q19.k0_mix] at h
  exact h
theorem Q19.a0_0_eq {ρ : Type} (N : Nat) (K : AV → Heap → Option ρ) (ov11 : Nat) (ov12 : Nat) (ov13 : Nat → Nat) (ov14 : Nat → Nat) (ov15 : Nat → Int) :
    (Q19.k0 N K) (.exit 0) (Q19.sx0_0 ov11 ov12 ov13 ov14 ov15) = (Q19.a0_0 N (fun d0 d1 d2 d3 d4 => K (.slice true 0 0 d0 .whole 1) [⟨true, .hdr 1 0 d1 d2 d3 none⟩, ⟨true, .flat 0 (.ints .i64 d4)⟩]) ov11 ov12 ov13 ov14 ov15) := by kernel_rfl
theorem Q19.l1_eq {ρ : Type} (N : Nat) (K : AV → Heap → Option ρ) (L0 : St → Option ρ) (outv0 : Nat) (i1 : Int) (gv2 : Nat) (gv3 : Nat → Nat) (gv4 : Nat → Nat) (gv5 : Nat → Int) :
    ∀ (m : Nat) (row6 : Nat) (j7 : Int) (gv8 : Nat → Int), xloop (xcode (E19 N) ents Q19.kp 0 N (cL (cK (cB (cA (cB (cK (cA (cB (cL (cK (cB (cA (cB (cB Q19.bd)))))))))))))) 2) Q19.kp 0 2 m (Q19.st1 outv0 i1 gv2 gv3 gv4 gv5 row6 j7 gv8) (Q19.k1g N L0 (Q19.k0 N K)) = (Q19.l1 N (fun d0 d1 d2 d3 d4 => K (.slice true 0 0 d0 .whole 1) [⟨true, .hdr 1 0 d1 d2 d3 none⟩, ⟨true, .flat 0 (.ints .i64 d4)⟩]) i1 (fun ov9 ov10 => (Q19.k1g N L0 (Q19.k0 N K)) (.exit 2) (Q19.sx1_0 outv0 i1 gv2 gv3 gv4 gv5 ov9 ov10)) m row6 j7 gv8) := by
  intro m
  induction m with
  | zero => intros; rfl
  | succ m ih =>
    intro row6 j7 gv8
    refine (Q19.b1_eq N K L0 (fun s => xloop (xcode (E19 N) ents Q19.kp 0 N (cL (cK (cB (cA (cB (cK (cA (cB (cL (cK (cB (cA (cB (cB Q19.bd)))))))))))))) 2) Q19.kp 0 2 m s (Q19.k1g N L0 (Q19.k0 N K))) outv0 i1 gv2 gv3 gv4 gv5 row6 j7 gv8).trans ?_
    simp only [ih]
    kernel_rfl
theorem Q19.l0_eq {ρ : Type} (N : Nat) (K : AV → Heap → Option ρ) :
    ∀ (m : Nat) (outv0 : Nat) (i1 : Int) (gv2 : Nat) (gv3 : Nat → Nat) (gv4 : Nat → Nat) (gv5 : Nat → Int), xloop (xcode (E19 N) ents Q19.kp 0 N (cL (cK (cB (cA (cB (cB Q19.bd)))))) 0) Q19.kp 0 0 m (Q19.st0 outv0 i1 gv2 gv3 gv4 gv5) (Q19.k0 N K) = (Q19.l0 N (fun d0 d1 d2 d3 d4 => K (.slice true 0 0 d0 .whole 1) [⟨true, .hdr 1 0 d1 d2 d3 none⟩, ⟨true, .flat 0 (.ints .i64 d4)⟩]) (fun ov11 ov12 ov13 ov14 ov15 => (Q19.k0 N K) (.exit 0) (Q19.sx0_0 ov11 ov12 ov13 ov14 ov15)) m outv0 i1 gv2 gv3 gv4 gv5) := by
  intro m
  induction m with
  | zero => intros; rfl
  | succ m ih =>
    intro outv0 i1 gv2 gv3 gv4 gv5
    refine (Q19.b0_eq N K (fun s => xloop (xcode (E19 N) ents Q19.kp 0 N (cL (cK (cB (cA (cB (cB Q19.bd)))))) 0) Q19.kp 0 0 m s (Q19.k0 N K)) outv0 i1 gv2 gv3 gv4 gv5).trans ?_
    simp only [ih, Q19.l1_eq, Q19.a1_0_eq]
    kernel_rfl
theorem Q19.s_eq {ρ : Type} (N : Nat) (K : AV → Heap → Option ρ) :
    xbody (E19 N) ents Q19.kp N Try.f31 Q19.bd [] [] K = (Q19.s N (fun d0 d1 d2 d3 d4 => K (.slice true 0 0 d0 .whole 1) [⟨true, .hdr 1 0 d1 d2 d3 none⟩, ⟨true, .flat 0 (.ints .i64 d4)⟩]) (fun outv0 i1 gv2 gv3 gv4 gv5 => xloop (xcode (E19 N) ents Q19.kp 0 N (cL (cK (cB (cA (cB (cB Q19.bd)))))) 0) Q19.kp 0 0 N (Q19.st0 outv0 i1 gv2 gv3 gv4 gv5) (Q19.k0 N K))) := by kernel_rfl
theorem Q19.eq {ρ : Type} (N : Nat) (K : AV → Heap → Option ρ) :
    xbody (E19 N) ents Q19.kp N Try.f31 Q19.bd [] [] K = (Q19 N (fun d0 d1 d2 d3 d4 => K (.slice true 0 0 d0 .whole 1) [⟨true, .hdr 1 0 d1 d2 d3 none⟩, ⟨true, .flat 0 (.ints .i64 d4)⟩])) := by
  refine (Q19.s_eq N K ).trans ?_
  simp only [Q19.l0_eq, Q19.a0_0_eq]
  kernel_rfl
def Q19.en (N : Nat) (ρ : Type) : List AV → Heap → (AV → Heap → Option ρ) → Option ρ
  | [], [], K => (Q19 N (fun d0 d1 d2 d3 d4 => K (.slice true 0 0 d0 .whole 1) [⟨true, .hdr 1 0 d1 d2 d3 none⟩, ⟨true, .flat 0 (.ints .i64 d4)⟩]))
  | _, _, _ => none
theorem Q19.en_ok (N : Nat) (hE : EnvOk (E19 N) ents) (ρ : Type) (args : List AV) (sh : Heap) (K : AV → Heap → Option ρ) (r : ρ) (h : Q19.en N ρ args sh K = some r) : ∃ v sh', K v sh' = some r ∧ FnOk (E19 N).P 31 args sh v sh' := by
  unfold Q19.en at h
  split at h
  · exact fn_ok hE (kp := Q19.kp) (N := N) Try.func31 (c := Q19.bd) (by kernel_rfl) ((Q19.eq N _ ).trans h)
  · cases h
def E20 (N : Nat) : Env := (E19 N).add 31 (Q19.en N)
theorem E20_ok (N : Nat) : EnvOk (E20 N) ents := Env.add_ok (E19_ok N) (Q19.en_ok N (E19_ok N))
def Q20.kp : Keeps := ⟨[], [], [(.slot 2, .unkH .i64)]⟩
def Q20.bd : Code := bodyOf Try.f10
def Q20.fin {ρ : Type} (N : Nat) (K : AV → Heap → Option ρ) : XE → St → Option ρ := finK (E20 N) Q20.kp.fins Try.f10 [] K
theorem Q20.eq {ρ : Type} (N : Nat) (K : AV → Heap → Option ρ) (name0 : ByteArray) :
    xbody (E20 N) ents Q20.kp N Try.f10 Q20.bd [.str (name0)] [] K = (Q20 N (fun d0 d1 d2 d3 d4 d5 => K (.tup [.slice false 0 0 d0 .unk 1, .bool (d1)]) [⟨true, .hdr 1 0 d2 d3 d4 none⟩, ⟨true, .flat 0 (.ints .i64 d5)⟩]) name0) := by kernel_rfl
def Q20.en (N : Nat) (ρ : Type) : List AV → Heap → (AV → Heap → Option ρ) → Option ρ
  | [.str (name0)], [], K => (Q20 N (fun d0 d1 d2 d3 d4 d5 => K (.tup [.slice false 0 0 d0 .unk 1, .bool (d1)]) [⟨true, .hdr 1 0 d2 d3 d4 none⟩, ⟨true, .flat 0 (.ints .i64 d5)⟩]) name0)
  | _, _, _ => none
theorem Q20.en_ok (N : Nat) (hE : EnvOk (E20 N) ents) (ρ : Type) (args : List AV) (sh : Heap) (K : AV → Heap → Option ρ) (r : ρ) (h : Q20.en N ρ args sh K = some r) : ∃ v sh', K v sh' = some r ∧ FnOk (E20 N).P 10 args sh v sh' := by
  unfold Q20.en at h
  split at h
  · exact fn_ok hE (kp := Q20.kp) (N := N) Try.func10 (c := Q20.bd) (by kernel_rfl) ((Q20.eq N _ _).trans h)
  · cases h
def E21 (N : Nat) : Env := (E20 N).add 10 (Q20.en N)
theorem E21_ok (N : Nat) : EnvOk (E21 N) ents := Env.add_ok (E20_ok N) (Q20.en_ok N (E20_ok N))
end
end Go.Proofs.Ytlehklooibbmcaa.H
