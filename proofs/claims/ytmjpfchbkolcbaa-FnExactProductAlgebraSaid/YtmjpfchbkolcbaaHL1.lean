/- The program computes these functions. -/
import Derived.Test.YtmjpfchbkolcbaaHL0
namespace Go.Proofs.Ytmjpfchbkolcbaa.H
set_option linter.unusedVariables false
set_option linter.unusedSimpArgs false
open Go Go.RowKit Go.Proofs.Ytmjpfchbkolcbaa.Hx
set_option linter.unusedVariables false
set_option maxRecDepth 100000
theorem impl_field_mod.en_ok (N : Nat) (hE : EnvOk (E27 N) ents) (ρ : Type) (args : List AV) (sh : Heap) (K : AV → Heap → Option ρ) (r : ρ) (h : impl_field_mod.en N ρ args sh K = some r) : ∃ v sh', K v sh' = some r ∧ FnOk (E27 N).P 91 args sh v sh' := by
  unfold impl_field_mod.en at h
  split at h
  · exact fn_ok hE (kp := impl_field_mod.kp) (N := N) Go.Proofs.Try.func91 (c := impl_field_mod.bd) (by kernel_rfl) ((impl_field_mod.eq N _ _ _).trans h)
  · cases h

noncomputable def E28 (N : Nat) : Env := (E27 N).add 91 (impl_field_mod.en N)

theorem E28_ok (N : Nat) : EnvOk (E28 N) ents := Env.add_ok (E27_ok N) (impl_field_mod.en_ok N (E27_ok N))

noncomputable def impl_field_plus.kp : Keeps := ⟨[(0, [1, 2, 4, 12, 13], 3)], [(0, [], 3)]⟩

noncomputable def impl_field_plus.bd : Code := bodyOf Go.Proofs.Try.f74

noncomputable def impl_field_plus.fin {ρ : Type} (N : Nat) (K : AV → Heap → Option ρ) (g3 : Nat → Int) : XE → St → Option ρ := finK (E28 N) Go.Proofs.Try.f74 [⟨true, .ints .u8 8 g3⟩] K

noncomputable def impl_field_plus.k0 {ρ : Type} (N : Nat) (K : AV → Heap → Option ρ) (g3 : Nat → Int) : XE → St → Option ρ := (blockK impl_field_plus.kp 1 0 (impl_field_plus.fin N K g3))

theorem impl_field_plus.k0_mix {ρ : Type} (N : Nat) (K : AV → Heap → Option ρ) (g3 : Nat → Int) : mixK (impl_field_plus.fin N K g3 .ret) (impl_field_plus.k0 N K g3) = (impl_field_plus.k0 N K g3) := by
  funext e s; cases e <;> rfl

noncomputable def impl_field_plus.st0 (f0 : Nat → Int) (k1 : Int) (w2 : Nat → Int) (x4 : Int) (g5 : Nat → Int) : St := ⟨sl 35 [(1, .sptr [(0, 8)]), (2, .int .i64 (k1)), (4, .sptr [(1, 2)]), (12, .agg [⟨.u8, 8, w2⟩]), (13, .int .i64 (x4))], [⟨true, .ints .u8 8 g5⟩, ⟨true, .ints .i64 2 f0⟩, ⟨true, .ints .u8 8 w2⟩]⟩

noncomputable def impl_field_plus.sx0_0 (f0 : Nat → Int) (w2 : Nat → Int) (o7 : Nat → Int) : St := ⟨sl 35 [], [⟨true, .ints .u8 8 o7⟩, ⟨true, .ints .i64 2 f0⟩, ⟨true, .ints .u8 8 w2⟩]⟩

theorem impl_field_plus.b0_gen {ρ : Type} (N : Nat) (K : AV → Heap → Option ρ) (L0 : St → Option ρ) (kv : XE → St → Option ρ) (f0 : Nat → Int) (k1 : Int) (w2 : Nat → Int) (g3 : Nat → Int) (x4 : Int) (g5 : Nat → Int) :
    xcode (E28 N) ents impl_field_plus.kp 1 N (cL (cK (cB (cB (cB impl_field_plus.bd))))) 0 (impl_field_plus.st0 f0 k1 w2 x4 g5) (roundK impl_field_plus.kp 1 0 L0 (mixK (impl_field_plus.fin N K g3 .ret) kv)) = (impl_field_plus.b0 N (fun d0 => K (.tup []) [⟨true, .ints .u8 8 d0⟩]) (fun x4 g5 => L0 (impl_field_plus.st0 f0 k1 w2 x4 g5)) (fun o7 => kv (.exit 0) (impl_field_plus.sx0_0 f0 w2 o7)) f0 k1 w2 x4 g5) := by kernel_rfl

theorem impl_field_plus.b0_eq {ρ : Type} (N : Nat) (K : AV → Heap → Option ρ) (L0 : St → Option ρ) (f0 : Nat → Int) (k1 : Int) (w2 : Nat → Int) (g3 : Nat → Int) (x4 : Int) (g5 : Nat → Int) :
    xcode (E28 N) ents impl_field_plus.kp 1 N (cL (cK (cB (cB (cB impl_field_plus.bd))))) 0 (impl_field_plus.st0 f0 k1 w2 x4 g5) (roundK impl_field_plus.kp 1 0 L0 (impl_field_plus.k0 N K g3)) = (impl_field_plus.b0 N (fun d0 => K (.tup []) [⟨true, .ints .u8 8 d0⟩]) (fun x4 g5 => L0 (impl_field_plus.st0 f0 k1 w2 x4 g5)) (fun o7 => (impl_field_plus.k0 N K g3) (.exit 0) (impl_field_plus.sx0_0 f0 w2 o7)) f0 k1 w2 x4 g5) := by
  have h := impl_field_plus.b0_gen N K L0 (impl_field_plus.k0 N K g3) f0 k1 w2 g3 x4 g5
  rw [impl_field_plus.k0_mix] at h
  exact h

theorem impl_field_plus.a0_0_eq {ρ : Type} (N : Nat) (K : AV → Heap → Option ρ) (f0 : Nat → Int) (w2 : Nat → Int) (g3 : Nat → Int) (o7 : Nat → Int) :
    (impl_field_plus.k0 N K g3) (.exit 0) (impl_field_plus.sx0_0 f0 w2 o7) = (impl_field_plus.a0_0 N (fun d0 => K (.tup []) [⟨true, .ints .u8 8 d0⟩]) o7) := by kernel_rfl

theorem impl_field_plus.l0_eq {ρ : Type} (N : Nat) (K : AV → Heap → Option ρ) (f0 : Nat → Int) (k1 : Int) (w2 : Nat → Int) (g3 : Nat → Int) :
    ∀ (m : Nat) (x4 : Int) (g5 : Nat → Int), xloop (xcode (E28 N) ents impl_field_plus.kp 1 N (cL (cK (cB (cB (cB impl_field_plus.bd))))) 0) impl_field_plus.kp 1 0 m (impl_field_plus.st0 f0 k1 w2 x4 g5) (impl_field_plus.k0 N K g3) = (impl_field_plus.l0 N (fun d0 => K (.tup []) [⟨true, .ints .u8 8 d0⟩]) f0 k1 w2 (fun o7 => (impl_field_plus.k0 N K g3) (.exit 0) (impl_field_plus.sx0_0 f0 w2 o7)) m x4 g5) := by
  intro m
  induction m with
  | zero => intros; rfl
  | succ m ih =>
    intro x4 g5
    refine (impl_field_plus.b0_eq N K (fun s => xloop (xcode (E28 N) ents impl_field_plus.kp 1 N (cL (cK (cB (cB (cB impl_field_plus.bd))))) 0) impl_field_plus.kp 1 0 m s (impl_field_plus.k0 N K g3)) f0 k1 w2 g3 x4 g5).trans ?_
    simp only [ih]
    kernel_rfl

theorem impl_field_plus.s_eq {ρ : Type} (N : Nat) (K : AV → Heap → Option ρ) (f0 : Nat → Int) (k1 : Int) (w2 : Nat → Int) (g3 : Nat → Int) :
    xbody (E28 N) ents impl_field_plus.kp N Go.Proofs.Try.f74 impl_field_plus.bd [.agg [⟨.i64, 2, f0⟩], .sptr [(0, 8)], .int .i64 (k1), .agg [⟨.u8, 8, w2⟩]] [⟨true, .ints .u8 8 g3⟩] K = (impl_field_plus.s N (fun d0 => K (.tup []) [⟨true, .ints .u8 8 d0⟩]) (fun x4 g5 => xloop (xcode (E28 N) ents impl_field_plus.kp 1 N (cL (cK (cB (cB (cB impl_field_plus.bd))))) 0) impl_field_plus.kp 1 0 N (impl_field_plus.st0 f0 k1 w2 x4 g5) (impl_field_plus.k0 N K g3)) k1 g3) := by kernel_rfl

theorem impl_field_plus.eq {ρ : Type} (N : Nat) (K : AV → Heap → Option ρ) (f0 : Nat → Int) (k1 : Int) (w2 : Nat → Int) (g3 : Nat → Int) :
    xbody (E28 N) ents impl_field_plus.kp N Go.Proofs.Try.f74 impl_field_plus.bd [.agg [⟨.i64, 2, f0⟩], .sptr [(0, 8)], .int .i64 (k1), .agg [⟨.u8, 8, w2⟩]] [⟨true, .ints .u8 8 g3⟩] K = (impl_field_plus N (fun d0 => K (.tup []) [⟨true, .ints .u8 8 d0⟩]) f0 k1 w2 g3) := by
  refine (impl_field_plus.s_eq N K f0 k1 w2 g3).trans ?_
  simp only [impl_field_plus.l0_eq, impl_field_plus.a0_0_eq]
  kernel_rfl

noncomputable def impl_field_plus.en (N : Nat) (ρ : Type) : List AV → Heap → (AV → Heap → Option ρ) → Option ρ
  | [.agg [⟨.i64, 2, f0⟩], .sptr [(0, 8)], .int .i64 (k1), .agg [⟨.u8, 8, w2⟩]], [⟨true, .ints .u8 8 g3⟩], K => (impl_field_plus N (fun d0 => K (.tup []) [⟨true, .ints .u8 8 d0⟩]) f0 k1 w2 g3)
  | _, _, _ => none

theorem impl_field_plus.en_ok (N : Nat) (hE : EnvOk (E28 N) ents) (ρ : Type) (args : List AV) (sh : Heap) (K : AV → Heap → Option ρ) (r : ρ) (h : impl_field_plus.en N ρ args sh K = some r) : ∃ v sh', K v sh' = some r ∧ FnOk (E28 N).P 74 args sh v sh' := by
  unfold impl_field_plus.en at h
  split at h
  · exact fn_ok hE (kp := impl_field_plus.kp) (N := N) Go.Proofs.Try.func74 (c := impl_field_plus.bd) (by kernel_rfl) ((impl_field_plus.eq N _ _ _ _ _).trans h)
  · cases h

noncomputable def E29 (N : Nat) : Env := (E28 N).add 74 (impl_field_plus.en N)

theorem E29_ok (N : Nat) : EnvOk (E29 N) ents := Env.add_ok (E28_ok N) (impl_field_plus.en_ok N (E28_ok N))

noncomputable def impl_Algebra_product.kp : Keeps := ⟨[(0, [0, 4, 5, 6, 7, 8, 15, 16], 7), (2, [0, 4, 5, 6, 7, 8, 9, 15, 16, 24, 25], 7)], [(0, [6, 8], 7), (2, [0, 4, 5, 6, 7, 8, 15, 16], 7)]⟩

noncomputable def impl_Algebra_product.bd : Code := bodyOf Go.Proofs.Try.f52

noncomputable def impl_Algebra_product.fin {ρ : Type} (N : Nat) (K : AV → Heap → Option ρ) (g2 : Nat → Int) (g3 : Nat → Int) : XE → St → Option ρ := finK (E29 N) Go.Proofs.Try.f52 [⟨false, .ints .i64 2 g2⟩, ⟨false, .ints .u8 520 g3⟩] K

noncomputable def impl_Algebra_product.k0 {ρ : Type} (N : Nat) (K : AV → Heap → Option ρ) (g2 : Nat → Int) (g3 : Nat → Int) : XE → St → Option ρ := (blockK impl_Algebra_product.kp 2 0 (seqK (xcode (E29 N) ents impl_Algebra_product.kp 2 N (cB (cB (cB impl_Algebra_product.bd))) 0) (impl_Algebra_product.fin N K g2 g3)))

theorem impl_Algebra_product.k0_mix {ρ : Type} (N : Nat) (K : AV → Heap → Option ρ) (g2 : Nat → Int) (g3 : Nat → Int) : mixK (impl_Algebra_product.fin N K g2 g3 .ret) (impl_Algebra_product.k0 N K g2 g3) = (impl_Algebra_product.k0 N K g2 g3) := by
  funext e s; cases e <;> rfl

noncomputable def impl_Algebra_product.st0 (v0 : Nat → Int) (w1 : Nat → Int) (g2 : Nat → Int) (g3 : Nat → Int) (r4 : Nat → Int) (x5 : Int) (g6 : Nat → Int) : St := ⟨sl 50 [(0, .sptr [(0, 2), (1, 520)]), (4, .sptr [(2, 8)]), (5, .sptr [(3, 8)]), (6, .sptr [(4, 8)]), (7, .sptr [(5, 2)]), (8, .sptr [(6, 8)]), (15, .int .i64 ((r4 1))), (16, .int .i64 (x5))], [⟨false, .ints .i64 2 g2⟩, ⟨false, .ints .u8 520 g3⟩, ⟨true, .ints .u8 8 v0⟩, ⟨true, .ints .u8 8 w1⟩, ⟨true, .ints .u8 8 (fun _ => 0)⟩, ⟨true, .ints .i64 2 r4⟩, ⟨true, .ints .u8 8 g6⟩]⟩

noncomputable def impl_Algebra_product.sx0_0 (v0 : Nat → Int) (w1 : Nat → Int) (g2 : Nat → Int) (g3 : Nat → Int) (r4 : Nat → Int) (o11 : Nat → Int) : St := ⟨sl 50 [(6, .sptr [(4, 8)]), (8, .sptr [(6, 8)])], [⟨false, .ints .i64 2 g2⟩, ⟨false, .ints .u8 520 g3⟩, ⟨true, .ints .u8 8 v0⟩, ⟨true, .ints .u8 8 w1⟩, ⟨true, .ints .u8 8 (fun _ => 0)⟩, ⟨true, .ints .i64 2 r4⟩, ⟨true, .ints .u8 8 o11⟩]⟩

noncomputable def impl_Algebra_product.k1g {ρ : Type} (N : Nat) (L0 : St → Option ρ) (kv : XE → St → Option ρ) : XE → St → Option ρ := (blockK impl_Algebra_product.kp 2 2 (blockK impl_Algebra_product.kp 2 1 (seqK (xcode (E29 N) ents impl_Algebra_product.kp 2 N (cB (cB (cB (cL (cK (cB (cA (cB (cB impl_Algebra_product.bd))))))))) 0) (roundK impl_Algebra_product.kp 2 0 L0 kv))))

theorem impl_Algebra_product.k1_mix {ρ : Type} (N : Nat) (K : AV → Heap → Option ρ) (L0 : St → Option ρ) (g2 : Nat → Int) (g3 : Nat → Int) : mixK (impl_Algebra_product.fin N K g2 g3 .ret) (impl_Algebra_product.k1g N L0 (impl_Algebra_product.k0 N K g2 g3)) = (impl_Algebra_product.k1g N L0 (impl_Algebra_product.k0 N K g2 g3)) := by
  funext e s; cases e <;> rfl

noncomputable def impl_Algebra_product.st1 (v0 : Nat → Int) (w1 : Nat → Int) (g2 : Nat → Int) (g3 : Nat → Int) (r4 : Nat → Int) (x5 : Int) (x7 : Int) (g8 : Nat → Int) : St := ⟨sl 50 [(0, .sptr [(0, 2), (1, 520)]), (4, .sptr [(2, 8)]), (5, .sptr [(3, 8)]), (6, .sptr [(4, 8)]), (7, .sptr [(5, 2)]), (8, .sptr [(6, 8)]), (9, .int .i64 (x5)), (15, .int .i64 ((r4 1))), (16, .int .i64 (x5)), (24, .int .i64 ((r4 1))), (25, .int .i64 (x7))], [⟨false, .ints .i64 2 g2⟩, ⟨false, .ints .u8 520 g3⟩, ⟨true, .ints .u8 8 v0⟩, ⟨true, .ints .u8 8 w1⟩, ⟨true, .ints .u8 8 (fun _ => 0)⟩, ⟨true, .ints .i64 2 r4⟩, ⟨true, .ints .u8 8 g8⟩]⟩

noncomputable def impl_Algebra_product.sx1_0 (v0 : Nat → Int) (w1 : Nat → Int) (g2 : Nat → Int) (g3 : Nat → Int) (r4 : Nat → Int) (x5 : Int) (o10 : Nat → Int) : St := ⟨sl 50 [(0, .sptr [(0, 2), (1, 520)]), (4, .sptr [(2, 8)]), (5, .sptr [(3, 8)]), (6, .sptr [(4, 8)]), (7, .sptr [(5, 2)]), (8, .sptr [(6, 8)]), (15, .int .i64 ((r4 1))), (16, .int .i64 (x5))], [⟨false, .ints .i64 2 g2⟩, ⟨false, .ints .u8 520 g3⟩, ⟨true, .ints .u8 8 v0⟩, ⟨true, .ints .u8 8 w1⟩, ⟨true, .ints .u8 8 (fun _ => 0)⟩, ⟨true, .ints .i64 2 r4⟩, ⟨true, .ints .u8 8 o10⟩]⟩

theorem impl_Algebra_product.b1_gen {ρ : Type} (N : Nat) (K : AV → Heap → Option ρ) (L1 : St → Option ρ) (kv : XE → St → Option ρ) (v0 : Nat → Int) (w1 : Nat → Int) (g2 : Nat → Int) (g3 : Nat → Int) (r4 : Nat → Int) (x5 : Int) (x7 : Int) (g8 : Nat → Int) :
    xcode (E29 N) ents impl_Algebra_product.kp 2 N (cL (cK (cB (cB (cB (cK (cA (cB (cB (cL (cK (cB (cA (cB (cB impl_Algebra_product.bd))))))))))))))) 2 (impl_Algebra_product.st1 v0 w1 g2 g3 r4 x5 x7 g8) (roundK impl_Algebra_product.kp 2 2 L1 (mixK (impl_Algebra_product.fin N K g2 g3 .ret) kv)) = (impl_Algebra_product.b1 N (fun d0 => K (.agg [⟨.u8, 8, d0⟩]) [⟨false, .ints .i64 2 g2⟩, ⟨false, .ints .u8 520 g3⟩]) (fun x7 g8 => L1 (impl_Algebra_product.st1 v0 w1 g2 g3 r4 x5 x7 g8)) (fun o10 => kv (.exit 2) (impl_Algebra_product.sx1_0 v0 w1 g2 g3 r4 x5 o10)) v0 w1 g3 r4 x5 x7 g8) := by kernel_rfl

theorem impl_Algebra_product.b1_eq {ρ : Type} (N : Nat) (K : AV → Heap → Option ρ) (L0 : St → Option ρ) (L1 : St → Option ρ) (v0 : Nat → Int) (w1 : Nat → Int) (g2 : Nat → Int) (g3 : Nat → Int) (r4 : Nat → Int) (x5 : Int) (x7 : Int) (g8 : Nat → Int) :
    xcode (E29 N) ents impl_Algebra_product.kp 2 N (cL (cK (cB (cB (cB (cK (cA (cB (cB (cL (cK (cB (cA (cB (cB impl_Algebra_product.bd))))))))))))))) 2 (impl_Algebra_product.st1 v0 w1 g2 g3 r4 x5 x7 g8) (roundK impl_Algebra_product.kp 2 2 L1 (impl_Algebra_product.k1g N L0 (impl_Algebra_product.k0 N K g2 g3))) = (impl_Algebra_product.b1 N (fun d0 => K (.agg [⟨.u8, 8, d0⟩]) [⟨false, .ints .i64 2 g2⟩, ⟨false, .ints .u8 520 g3⟩]) (fun x7 g8 => L1 (impl_Algebra_product.st1 v0 w1 g2 g3 r4 x5 x7 g8)) (fun o10 => (impl_Algebra_product.k1g N L0 (impl_Algebra_product.k0 N K g2 g3)) (.exit 2) (impl_Algebra_product.sx1_0 v0 w1 g2 g3 r4 x5 o10)) v0 w1 g3 r4 x5 x7 g8) := by
  have h := impl_Algebra_product.b1_gen N K L1 (impl_Algebra_product.k1g N L0 (impl_Algebra_product.k0 N K g2 g3)) v0 w1 g2 g3 r4 x5 x7 g8
  rw [impl_Algebra_product.k1_mix] at h
  exact h

theorem impl_Algebra_product.a1_0_gen {ρ : Type} (N : Nat) (K : AV → Heap → Option ρ) (L0 : St → Option ρ) (kv : XE → St → Option ρ) (v0 : Nat → Int) (w1 : Nat → Int) (g2 : Nat → Int) (g3 : Nat → Int) (r4 : Nat → Int) (x5 : Int) (o10 : Nat → Int) :
    (impl_Algebra_product.k1g N L0 (mixK (impl_Algebra_product.fin N K g2 g3 .ret) kv)) (.exit 2) (impl_Algebra_product.sx1_0 v0 w1 g2 g3 r4 x5 o10) = (impl_Algebra_product.a1_0 N (fun d0 => K (.agg [⟨.u8, 8, d0⟩]) [⟨false, .ints .i64 2 g2⟩, ⟨false, .ints .u8 520 g3⟩]) (fun x5 g6 => L0 (impl_Algebra_product.st0 v0 w1 g2 g3 r4 x5 g6)) (fun o11 => kv (.exit 0) (impl_Algebra_product.sx0_0 v0 w1 g2 g3 r4 o11)) x5 o10) := by kernel_rfl

theorem impl_Algebra_product.a1_0_eq {ρ : Type} (N : Nat) (K : AV → Heap → Option ρ) (L0 : St → Option ρ) (v0 : Nat → Int) (w1 : Nat → Int) (g2 : Nat → Int) (g3 : Nat → Int) (r4 : Nat → Int) (x5 : Int) (o10 : Nat → Int) :
    (impl_Algebra_product.k1g N L0 (impl_Algebra_product.k0 N K g2 g3)) (.exit 2) (impl_Algebra_product.sx1_0 v0 w1 g2 g3 r4 x5 o10) = (impl_Algebra_product.a1_0 N (fun d0 => K (.agg [⟨.u8, 8, d0⟩]) [⟨false, .ints .i64 2 g2⟩, ⟨false, .ints .u8 520 g3⟩]) (fun x5 g6 => L0 (impl_Algebra_product.st0 v0 w1 g2 g3 r4 x5 g6)) (fun o11 => (impl_Algebra_product.k0 N K g2 g3) (.exit 0) (impl_Algebra_product.sx0_0 v0 w1 g2 g3 r4 o11)) x5 o10) := by
  have h := impl_Algebra_product.a1_0_gen N K L0 (impl_Algebra_product.k0 N K g2 g3) v0 w1 g2 g3 r4 x5 o10
  rw [impl_Algebra_product.k0_mix] at h
  exact h

theorem impl_Algebra_product.b0_gen {ρ : Type} (N : Nat) (K : AV → Heap → Option ρ) (L0 : St → Option ρ) (kv : XE → St → Option ρ) (v0 : Nat → Int) (w1 : Nat → Int) (g2 : Nat → Int) (g3 : Nat → Int) (r4 : Nat → Int) (x5 : Int) (g6 : Nat → Int) :
    xcode (E29 N) ents impl_Algebra_product.kp 2 N (cL (cK (cB (cA (cB (cB impl_Algebra_product.bd)))))) 0 (impl_Algebra_product.st0 v0 w1 g2 g3 r4 x5 g6) (roundK impl_Algebra_product.kp 2 0 L0 (mixK (impl_Algebra_product.fin N K g2 g3 .ret) kv)) = (impl_Algebra_product.b0 N (fun d0 => K (.agg [⟨.u8, 8, d0⟩]) [⟨false, .ints .i64 2 g2⟩, ⟨false, .ints .u8 520 g3⟩]) (fun x7 g8 => xloop (xcode (E29 N) ents impl_Algebra_product.kp 2 N (cL (cK (cB (cB (cB (cK (cA (cB (cB (cL (cK (cB (cA (cB (cB impl_Algebra_product.bd))))))))))))))) 2) impl_Algebra_product.kp 2 2 N (impl_Algebra_product.st1 v0 w1 g2 g3 r4 x5 x7 g8) (impl_Algebra_product.k1g N L0 (mixK (impl_Algebra_product.fin N K g2 g3 .ret) kv))) (fun x5 g6 => L0 (impl_Algebra_product.st0 v0 w1 g2 g3 r4 x5 g6)) (fun o11 => kv (.exit 0) (impl_Algebra_product.sx0_0 v0 w1 g2 g3 r4 o11)) v0 r4 x5 g6) := by kernel_rfl

theorem impl_Algebra_product.b0_eq {ρ : Type} (N : Nat) (K : AV → Heap → Option ρ) (L0 : St → Option ρ) (v0 : Nat → Int) (w1 : Nat → Int) (g2 : Nat → Int) (g3 : Nat → Int) (r4 : Nat → Int) (x5 : Int) (g6 : Nat → Int) :
    xcode (E29 N) ents impl_Algebra_product.kp 2 N (cL (cK (cB (cA (cB (cB impl_Algebra_product.bd)))))) 0 (impl_Algebra_product.st0 v0 w1 g2 g3 r4 x5 g6) (roundK impl_Algebra_product.kp 2 0 L0 (impl_Algebra_product.k0 N K g2 g3)) = (impl_Algebra_product.b0 N (fun d0 => K (.agg [⟨.u8, 8, d0⟩]) [⟨false, .ints .i64 2 g2⟩, ⟨false, .ints .u8 520 g3⟩]) (fun x7 g8 => xloop (xcode (E29 N) ents impl_Algebra_product.kp 2 N (cL (cK (cB (cB (cB (cK (cA (cB (cB (cL (cK (cB (cA (cB (cB impl_Algebra_product.bd))))))))))))))) 2) impl_Algebra_product.kp 2 2 N (impl_Algebra_product.st1 v0 w1 g2 g3 r4 x5 x7 g8) (impl_Algebra_product.k1g N L0 (impl_Algebra_product.k0 N K g2 g3))) (fun x5 g6 => L0 (impl_Algebra_product.st0 v0 w1 g2 g3 r4 x5 g6)) (fun o11 => (impl_Algebra_product.k0 N K g2 g3) (.exit 0) (impl_Algebra_product.sx0_0 v0 w1 g2 g3 r4 o11)) v0 r4 x5 g6) := by
  have h := impl_Algebra_product.b0_gen N K L0 (impl_Algebra_product.k0 N K g2 g3) v0 w1 g2 g3 r4 x5 g6
  rw [impl_Algebra_product.k0_mix] at h
  exact h

theorem impl_Algebra_product.a0_0_eq {ρ : Type} (N : Nat) (K : AV → Heap → Option ρ) (v0 : Nat → Int) (w1 : Nat → Int) (g2 : Nat → Int) (g3 : Nat → Int) (r4 : Nat → Int) (o11 : Nat → Int) :
    (impl_Algebra_product.k0 N K g2 g3) (.exit 0) (impl_Algebra_product.sx0_0 v0 w1 g2 g3 r4 o11) = (impl_Algebra_product.a0_0 N (fun d0 => K (.agg [⟨.u8, 8, d0⟩]) [⟨false, .ints .i64 2 g2⟩, ⟨false, .ints .u8 520 g3⟩]) o11) := by kernel_rfl

theorem impl_Algebra_product.l1_eq {ρ : Type} (N : Nat) (K : AV → Heap → Option ρ) (L0 : St → Option ρ) (v0 : Nat → Int) (w1 : Nat → Int) (g2 : Nat → Int) (g3 : Nat → Int) (r4 : Nat → Int) (x5 : Int) :
    ∀ (m : Nat) (x7 : Int) (g8 : Nat → Int), xloop (xcode (E29 N) ents impl_Algebra_product.kp 2 N (cL (cK (cB (cB (cB (cK (cA (cB (cB (cL (cK (cB (cA (cB (cB impl_Algebra_product.bd))))))))))))))) 2) impl_Algebra_product.kp 2 2 m (impl_Algebra_product.st1 v0 w1 g2 g3 r4 x5 x7 g8) (impl_Algebra_product.k1g N L0 (impl_Algebra_product.k0 N K g2 g3)) = (impl_Algebra_product.l1 N (fun d0 => K (.agg [⟨.u8, 8, d0⟩]) [⟨false, .ints .i64 2 g2⟩, ⟨false, .ints .u8 520 g3⟩]) v0 w1 g3 r4 x5 (fun o10 => (impl_Algebra_product.k1g N L0 (impl_Algebra_product.k0 N K g2 g3)) (.exit 2) (impl_Algebra_product.sx1_0 v0 w1 g2 g3 r4 x5 o10)) m x7 g8) := by
  intro m
  induction m with
  | zero => intros; rfl
  | succ m ih =>
    intro x7 g8
    refine (impl_Algebra_product.b1_eq N K L0 (fun s => xloop (xcode (E29 N) ents impl_Algebra_product.kp 2 N (cL (cK (cB (cB (cB (cK (cA (cB (cB (cL (cK (cB (cA (cB (cB impl_Algebra_product.bd))))))))))))))) 2) impl_Algebra_product.kp 2 2 m s (impl_Algebra_product.k1g N L0 (impl_Algebra_product.k0 N K g2 g3))) v0 w1 g2 g3 r4 x5 x7 g8).trans ?_
    simp only [ih]
    kernel_rfl

theorem impl_Algebra_product.l0_eq {ρ : Type} (N : Nat) (K : AV → Heap → Option ρ) (v0 : Nat → Int) (w1 : Nat → Int) (g2 : Nat → Int) (g3 : Nat → Int) (r4 : Nat → Int) :
    ∀ (m : Nat) (x5 : Int) (g6 : Nat → Int), xloop (xcode (E29 N) ents impl_Algebra_product.kp 2 N (cL (cK (cB (cA (cB (cB impl_Algebra_product.bd)))))) 0) impl_Algebra_product.kp 2 0 m (impl_Algebra_product.st0 v0 w1 g2 g3 r4 x5 g6) (impl_Algebra_product.k0 N K g2 g3) = (impl_Algebra_product.l0 N (fun d0 => K (.agg [⟨.u8, 8, d0⟩]) [⟨false, .ints .i64 2 g2⟩, ⟨false, .ints .u8 520 g3⟩]) v0 w1 g3 r4 (fun o11 => (impl_Algebra_product.k0 N K g2 g3) (.exit 0) (impl_Algebra_product.sx0_0 v0 w1 g2 g3 r4 o11)) m x5 g6) := by
  intro m
  induction m with
  | zero => intros; rfl
  | succ m ih =>
    intro x5 g6
    refine (impl_Algebra_product.b0_eq N K (fun s => xloop (xcode (E29 N) ents impl_Algebra_product.kp 2 N (cL (cK (cB (cA (cB (cB impl_Algebra_product.bd)))))) 0) impl_Algebra_product.kp 2 0 m s (impl_Algebra_product.k0 N K g2 g3)) v0 w1 g2 g3 r4 x5 g6).trans ?_
    simp only [ih, impl_Algebra_product.l1_eq, impl_Algebra_product.a1_0_eq]
    kernel_rfl

theorem impl_Algebra_product.s_eq {ρ : Type} (N : Nat) (K : AV → Heap → Option ρ) (v0 : Nat → Int) (w1 : Nat → Int) (g2 : Nat → Int) (g3 : Nat → Int) :
    xbody (E29 N) ents impl_Algebra_product.kp N Go.Proofs.Try.f52 impl_Algebra_product.bd [.sptr [(0, 2), (1, 520)], .agg [⟨.u8, 8, v0⟩], .agg [⟨.u8, 8, w1⟩]] [⟨false, .ints .i64 2 g2⟩, ⟨false, .ints .u8 520 g3⟩] K = (impl_Algebra_product.s N (fun d0 => K (.agg [⟨.u8, 8, d0⟩]) [⟨false, .ints .i64 2 g2⟩, ⟨false, .ints .u8 520 g3⟩]) (fun r4 x5 g6 => xloop (xcode (E29 N) ents impl_Algebra_product.kp 2 N (cL (cK (cB (cA (cB (cB impl_Algebra_product.bd)))))) 0) impl_Algebra_product.kp 2 0 N (impl_Algebra_product.st0 v0 w1 g2 g3 r4 x5 g6) (impl_Algebra_product.k0 N K g2 g3)) g2 g3) := by kernel_rfl

theorem impl_Algebra_product.eq {ρ : Type} (N : Nat) (K : AV → Heap → Option ρ) (v0 : Nat → Int) (w1 : Nat → Int) (g2 : Nat → Int) (g3 : Nat → Int) :
    xbody (E29 N) ents impl_Algebra_product.kp N Go.Proofs.Try.f52 impl_Algebra_product.bd [.sptr [(0, 2), (1, 520)], .agg [⟨.u8, 8, v0⟩], .agg [⟨.u8, 8, w1⟩]] [⟨false, .ints .i64 2 g2⟩, ⟨false, .ints .u8 520 g3⟩] K = (impl_Algebra_product N (fun d0 => K (.agg [⟨.u8, 8, d0⟩]) [⟨false, .ints .i64 2 g2⟩, ⟨false, .ints .u8 520 g3⟩]) v0 w1 g2 g3) := by
  refine (impl_Algebra_product.s_eq N K v0 w1 g2 g3).trans ?_
  simp only [impl_Algebra_product.l0_eq, impl_Algebra_product.a0_0_eq]
  kernel_rfl

noncomputable def impl_Algebra_product.en (N : Nat) (ρ : Type) : List AV → Heap → (AV → Heap → Option ρ) → Option ρ
  | [.sptr [(0, 2), (1, 520)], .agg [⟨.u8, 8, v0⟩], .agg [⟨.u8, 8, w1⟩]], [⟨false, .ints .i64 2 g2⟩, ⟨false, .ints .u8 520 g3⟩], K => (impl_Algebra_product N (fun d0 => K (.agg [⟨.u8, 8, d0⟩]) [⟨false, .ints .i64 2 g2⟩, ⟨false, .ints .u8 520 g3⟩]) v0 w1 g2 g3)
  | _, _, _ => none

theorem impl_Algebra_product.en_ok (N : Nat) (hE : EnvOk (E29 N) ents) (ρ : Type) (args : List AV) (sh : Heap) (K : AV → Heap → Option ρ) (r : ρ) (h : impl_Algebra_product.en N ρ args sh K = some r) : ∃ v sh', K v sh' = some r ∧ FnOk (E29 N).P 52 args sh v sh' := by
  unfold impl_Algebra_product.en at h
  split at h
  · exact fn_ok hE (kp := impl_Algebra_product.kp) (N := N) Go.Proofs.Try.func52 (c := impl_Algebra_product.bd) (by kernel_rfl) ((impl_Algebra_product.eq N _ _ _ _ _).trans h)
  · cases h

noncomputable def E30 (N : Nat) : Env := (E29 N).add 52 (impl_Algebra_product.en N)

theorem E30_ok (N : Nat) : EnvOk (E30 N) ents := Env.add_ok (E29_ok N) (impl_Algebra_product.en_ok N (E29_ok N))

noncomputable def impl_Algebra_fault.kp : Keeps := ⟨[(0, [0, 3, 11, 12], 2), (2, [0, 3, 4, 11, 12, 15, 16], 2), (4, [0, 3, 4, 5, 11, 12, 15, 16, 19, 20], 2)], [(0, [], 2), (2, [0, 3, 11, 12], 2), (4, [0, 3, 4, 11, 12, 15, 16], 2)]⟩

noncomputable def impl_Algebra_fault.bd : Code := bodyOf Go.Proofs.Try.f53

noncomputable def impl_Algebra_fault.fin {ρ : Type} (N : Nat) (K : AV → Heap → Option ρ) (g0 : Nat → Int) (g1 : Nat → Int) : XE → St → Option ρ := finK (E30 N) Go.Proofs.Try.f53 [⟨false, .ints .i64 2 g0⟩, ⟨false, .ints .u8 520 g1⟩] K

noncomputable def impl_Algebra_fault.k0 {ρ : Type} (N : Nat) (K : AV → Heap → Option ρ) (g0 : Nat → Int) (g1 : Nat → Int) : XE → St → Option ρ := (blockK impl_Algebra_fault.kp 2 0 (seqK (xcode (E30 N) ents impl_Algebra_fault.kp 2 N (cB (cB (cB impl_Algebra_fault.bd))) 0) (impl_Algebra_fault.fin N K g0 g1)))

theorem impl_Algebra_fault.k0_mix {ρ : Type} (N : Nat) (K : AV → Heap → Option ρ) (g0 : Nat → Int) (g1 : Nat → Int) : mixK (impl_Algebra_fault.fin N K g0 g1 .ret) (impl_Algebra_fault.k0 N K g0 g1) = (impl_Algebra_fault.k0 N K g0 g1) := by
  funext e s; cases e <;> rfl

noncomputable def impl_Algebra_fault.st0 (g0 : Nat → Int) (g1 : Nat → Int) (x2 : Int) : St := ⟨sl 55 [(0, .sptr [(0, 2), (1, 520)]), (3, .int .i64 ((g0 1))), (11, .int .i64 ((g0 1))), (12, .int .i64 (x2))], [⟨false, .ints .i64 2 g0⟩, ⟨false, .ints .u8 520 g1⟩]⟩

noncomputable def impl_Algebra_fault.sx0_0 (g0 : Nat → Int) (g1 : Nat → Int) : St := ⟨sl 55 [], [⟨false, .ints .i64 2 g0⟩, ⟨false, .ints .u8 520 g1⟩]⟩

noncomputable def impl_Algebra_fault.k1g {ρ : Type} (N : Nat) (L0 : St → Option ρ) (kv : XE → St → Option ρ) : XE → St → Option ρ := (blockK impl_Algebra_fault.kp 2 2 (blockK impl_Algebra_fault.kp 2 1 (seqK (xcode (E30 N) ents impl_Algebra_fault.kp 2 N (cB (cB (cB (cL (cK (cB (cA (cB (cB impl_Algebra_fault.bd))))))))) 0) (roundK impl_Algebra_fault.kp 2 0 L0 kv))))

theorem impl_Algebra_fault.k1_mix {ρ : Type} (N : Nat) (K : AV → Heap → Option ρ) (L0 : St → Option ρ) (g0 : Nat → Int) (g1 : Nat → Int) : mixK (impl_Algebra_fault.fin N K g0 g1 .ret) (impl_Algebra_fault.k1g N L0 (impl_Algebra_fault.k0 N K g0 g1)) = (impl_Algebra_fault.k1g N L0 (impl_Algebra_fault.k0 N K g0 g1)) := by
  funext e s; cases e <;> rfl

noncomputable def impl_Algebra_fault.st1 (g0 : Nat → Int) (g1 : Nat → Int) (x2 : Int) (x3 : Int) : St := ⟨sl 55 [(0, .sptr [(0, 2), (1, 520)]), (3, .int .i64 ((g0 1))), (4, .int .i64 (x2)), (11, .int .i64 ((g0 1))), (12, .int .i64 (x2)), (15, .int .i64 ((g0 1))), (16, .int .i64 (x3))], [⟨false, .ints .i64 2 g0⟩, ⟨false, .ints .u8 520 g1⟩]⟩

noncomputable def impl_Algebra_fault.sx1_0 (g0 : Nat → Int) (g1 : Nat → Int) (x2 : Int) : St := ⟨sl 55 [(0, .sptr [(0, 2), (1, 520)]), (3, .int .i64 ((g0 1))), (11, .int .i64 ((g0 1))), (12, .int .i64 (x2))], [⟨false, .ints .i64 2 g0⟩, ⟨false, .ints .u8 520 g1⟩]⟩

noncomputable def impl_Algebra_fault.k2g {ρ : Type} (N : Nat) (L1 : St → Option ρ) (kv : XE → St → Option ρ) : XE → St → Option ρ := (blockK impl_Algebra_fault.kp 2 4 (blockK impl_Algebra_fault.kp 2 3 (seqK (xcode (E30 N) ents impl_Algebra_fault.kp 2 N (cB (cB (cB (cL (cK (cB (cB (cK (cA (cB (cB (cL (cK (cB (cA (cB (cB impl_Algebra_fault.bd))))))))))))))))) 2) (roundK impl_Algebra_fault.kp 2 2 L1 kv))))

theorem impl_Algebra_fault.k2_mix {ρ : Type} (N : Nat) (K : AV → Heap → Option ρ) (L0 : St → Option ρ) (L1 : St → Option ρ) (g0 : Nat → Int) (g1 : Nat → Int) : mixK (impl_Algebra_fault.fin N K g0 g1 .ret) (impl_Algebra_fault.k2g N L1 (impl_Algebra_fault.k1g N L0 (impl_Algebra_fault.k0 N K g0 g1))) = (impl_Algebra_fault.k2g N L1 (impl_Algebra_fault.k1g N L0 (impl_Algebra_fault.k0 N K g0 g1))) := by
  funext e s; cases e <;> rfl

noncomputable def impl_Algebra_fault.st2 (g0 : Nat → Int) (g1 : Nat → Int) (x2 : Int) (x3 : Int) (x4 : Int) : St := ⟨sl 55 [(0, .sptr [(0, 2), (1, 520)]), (3, .int .i64 ((g0 1))), (4, .int .i64 (x2)), (5, .int .i64 (x3)), (11, .int .i64 ((g0 1))), (12, .int .i64 (x2)), (15, .int .i64 ((g0 1))), (16, .int .i64 (x3)), (19, .int .i64 ((g0 1))), (20, .int .i64 (x4))], [⟨false, .ints .i64 2 g0⟩, ⟨false, .ints .u8 520 g1⟩]⟩

noncomputable def impl_Algebra_fault.sx2_0 (g0 : Nat → Int) (g1 : Nat → Int) (x2 : Int) (x3 : Int) : St := ⟨sl 55 [(0, .sptr [(0, 2), (1, 520)]), (3, .int .i64 ((g0 1))), (4, .int .i64 (x2)), (11, .int .i64 ((g0 1))), (12, .int .i64 (x2)), (15, .int .i64 ((g0 1))), (16, .int .i64 (x3))], [⟨false, .ints .i64 2 g0⟩, ⟨false, .ints .u8 520 g1⟩]⟩

theorem impl_Algebra_fault.b2_gen {ρ : Type} (N : Nat) (K : AV → Heap → Option ρ) (L2 : St → Option ρ) (kv : XE → St → Option ρ) (g0 : Nat → Int) (g1 : Nat → Int) (x2 : Int) (x3 : Int) (x4 : Int) :
    xcode (E30 N) ents impl_Algebra_fault.kp 2 N (cL (cK (cB (cB (cK (cA (cB (cB (cL (cK (cB (cB (cK (cA (cB (cB (cL (cK (cB (cA (cB (cB impl_Algebra_fault.bd)))))))))))))))))))))) 4 (impl_Algebra_fault.st2 g0 g1 x2 x3 x4) (roundK impl_Algebra_fault.kp 2 4 L2 (mixK (impl_Algebra_fault.fin N K g0 g1 .ret) kv)) = (impl_Algebra_fault.b2 N (fun d0 d1 d2 => K (.slice 2 0 d0 (some d1) 1) [⟨false, .ints .i64 2 g0⟩, ⟨false, .ints .u8 520 g1⟩, ⟨true, .ints .i64 3 d2⟩]) (K (.nils) [⟨false, .ints .i64 2 g0⟩, ⟨false, .ints .u8 520 g1⟩]) (fun x4 => L2 (impl_Algebra_fault.st2 g0 g1 x2 x3 x4)) (kv (.exit 4) (impl_Algebra_fault.sx2_0 g0 g1 x2 x3)) g0 g1 x2 x3 x4) := by kernel_rfl

theorem impl_Algebra_fault.b2_eq {ρ : Type} (N : Nat) (K : AV → Heap → Option ρ) (L0 : St → Option ρ) (L1 : St → Option ρ) (L2 : St → Option ρ) (g0 : Nat → Int) (g1 : Nat → Int) (x2 : Int) (x3 : Int) (x4 : Int) :
    xcode (E30 N) ents impl_Algebra_fault.kp 2 N (cL (cK (cB (cB (cK (cA (cB (cB (cL (cK (cB (cB (cK (cA (cB (cB (cL (cK (cB (cA (cB (cB impl_Algebra_fault.bd)))))))))))))))))))))) 4 (impl_Algebra_fault.st2 g0 g1 x2 x3 x4) (roundK impl_Algebra_fault.kp 2 4 L2 (impl_Algebra_fault.k2g N L1 (impl_Algebra_fault.k1g N L0 (impl_Algebra_fault.k0 N K g0 g1)))) = (impl_Algebra_fault.b2 N (fun d0 d1 d2 => K (.slice 2 0 d0 (some d1) 1) [⟨false, .ints .i64 2 g0⟩, ⟨false, .ints .u8 520 g1⟩, ⟨true, .ints .i64 3 d2⟩]) (K (.nils) [⟨false, .ints .i64 2 g0⟩, ⟨false, .ints .u8 520 g1⟩]) (fun x4 => L2 (impl_Algebra_fault.st2 g0 g1 x2 x3 x4)) ((impl_Algebra_fault.k2g N L1 (impl_Algebra_fault.k1g N L0 (impl_Algebra_fault.k0 N K g0 g1))) (.exit 4) (impl_Algebra_fault.sx2_0 g0 g1 x2 x3)) g0 g1 x2 x3 x4) := by
  have h := impl_Algebra_fault.b2_gen N K L2 (impl_Algebra_fault.k2g N L1 (impl_Algebra_fault.k1g N L0 (impl_Algebra_fault.k0 N K g0 g1))) g0 g1 x2 x3 x4
  rw [impl_Algebra_fault.k2_mix] at h
  exact h

theorem impl_Algebra_fault.a2_0_gen {ρ : Type} (N : Nat) (K : AV → Heap → Option ρ) (L1 : St → Option ρ) (kv : XE → St → Option ρ) (g0 : Nat → Int) (g1 : Nat → Int) (x2 : Int) (x3 : Int) :
    (impl_Algebra_fault.k2g N L1 (mixK (impl_Algebra_fault.fin N K g0 g1 .ret) kv)) (.exit 4) (impl_Algebra_fault.sx2_0 g0 g1 x2 x3) = (impl_Algebra_fault.a2_0 N (fun d0 d1 d2 => K (.slice 2 0 d0 (some d1) 1) [⟨false, .ints .i64 2 g0⟩, ⟨false, .ints .u8 520 g1⟩, ⟨true, .ints .i64 3 d2⟩]) (K (.nils) [⟨false, .ints .i64 2 g0⟩, ⟨false, .ints .u8 520 g1⟩]) (fun x3 => L1 (impl_Algebra_fault.st1 g0 g1 x2 x3)) (kv (.exit 2) (impl_Algebra_fault.sx1_0 g0 g1 x2)) x3) := by kernel_rfl

theorem impl_Algebra_fault.a2_0_eq {ρ : Type} (N : Nat) (K : AV → Heap → Option ρ) (L0 : St → Option ρ) (L1 : St → Option ρ) (g0 : Nat → Int) (g1 : Nat → Int) (x2 : Int) (x3 : Int) :
    (impl_Algebra_fault.k2g N L1 (impl_Algebra_fault.k1g N L0 (impl_Algebra_fault.k0 N K g0 g1))) (.exit 4) (impl_Algebra_fault.sx2_0 g0 g1 x2 x3) = (impl_Algebra_fault.a2_0 N (fun d0 d1 d2 => K (.slice 2 0 d0 (some d1) 1) [⟨false, .ints .i64 2 g0⟩, ⟨false, .ints .u8 520 g1⟩, ⟨true, .ints .i64 3 d2⟩]) (K (.nils) [⟨false, .ints .i64 2 g0⟩, ⟨false, .ints .u8 520 g1⟩]) (fun x3 => L1 (impl_Algebra_fault.st1 g0 g1 x2 x3)) ((impl_Algebra_fault.k1g N L0 (impl_Algebra_fault.k0 N K g0 g1)) (.exit 2) (impl_Algebra_fault.sx1_0 g0 g1 x2)) x3) := by
  have h := impl_Algebra_fault.a2_0_gen N K L1 (impl_Algebra_fault.k1g N L0 (impl_Algebra_fault.k0 N K g0 g1)) g0 g1 x2 x3
  rw [impl_Algebra_fault.k1_mix] at h
  exact h

theorem impl_Algebra_fault.b1_gen {ρ : Type} (N : Nat) (K : AV → Heap → Option ρ) (L1 : St → Option ρ) (kv : XE → St → Option ρ) (g0 : Nat → Int) (g1 : Nat → Int) (x2 : Int) (x3 : Int) :
    xcode (E30 N) ents impl_Algebra_fault.kp 2 N (cL (cK (cB (cB (cK (cA (cB (cB (cL (cK (cB (cA (cB (cB impl_Algebra_fault.bd)))))))))))))) 2 (impl_Algebra_fault.st1 g0 g1 x2 x3) (roundK impl_Algebra_fault.kp 2 2 L1 (mixK (impl_Algebra_fault.fin N K g0 g1 .ret) kv)) = (impl_Algebra_fault.b1 N (fun d0 d1 d2 => K (.slice 2 0 d0 (some d1) 1) [⟨false, .ints .i64 2 g0⟩, ⟨false, .ints .u8 520 g1⟩, ⟨true, .ints .i64 3 d2⟩]) (K (.nils) [⟨false, .ints .i64 2 g0⟩, ⟨false, .ints .u8 520 g1⟩]) (fun x4 => xloop (xcode (E30 N) ents impl_Algebra_fault.kp 2 N (cL (cK (cB (cB (cK (cA (cB (cB (cL (cK (cB (cB (cK (cA (cB (cB (cL (cK (cB (cA (cB (cB impl_Algebra_fault.bd)))))))))))))))))))))) 4) impl_Algebra_fault.kp 2 4 N (impl_Algebra_fault.st2 g0 g1 x2 x3 x4) (impl_Algebra_fault.k2g N L1 (mixK (impl_Algebra_fault.fin N K g0 g1 .ret) kv))) (fun x3 => L1 (impl_Algebra_fault.st1 g0 g1 x2 x3)) (kv (.exit 2) (impl_Algebra_fault.sx1_0 g0 g1 x2)) g0 x3) := by kernel_rfl

theorem impl_Algebra_fault.b1_eq {ρ : Type} (N : Nat) (K : AV → Heap → Option ρ) (L0 : St → Option ρ) (L1 : St → Option ρ) (g0 : Nat → Int) (g1 : Nat → Int) (x2 : Int) (x3 : Int) :
    xcode (E30 N) ents impl_Algebra_fault.kp 2 N (cL (cK (cB (cB (cK (cA (cB (cB (cL (cK (cB (cA (cB (cB impl_Algebra_fault.bd)))))))))))))) 2 (impl_Algebra_fault.st1 g0 g1 x2 x3) (roundK impl_Algebra_fault.kp 2 2 L1 (impl_Algebra_fault.k1g N L0 (impl_Algebra_fault.k0 N K g0 g1))) = (impl_Algebra_fault.b1 N (fun d0 d1 d2 => K (.slice 2 0 d0 (some d1) 1) [⟨false, .ints .i64 2 g0⟩, ⟨false, .ints .u8 520 g1⟩, ⟨true, .ints .i64 3 d2⟩]) (K (.nils) [⟨false, .ints .i64 2 g0⟩, ⟨false, .ints .u8 520 g1⟩]) (fun x4 => xloop (xcode (E30 N) ents impl_Algebra_fault.kp 2 N (cL (cK (cB (cB (cK (cA (cB (cB (cL (cK (cB (cB (cK (cA (cB (cB (cL (cK (cB (cA (cB (cB impl_Algebra_fault.bd)))))))))))))))))))))) 4) impl_Algebra_fault.kp 2 4 N (impl_Algebra_fault.st2 g0 g1 x2 x3 x4) (impl_Algebra_fault.k2g N L1 (impl_Algebra_fault.k1g N L0 (impl_Algebra_fault.k0 N K g0 g1)))) (fun x3 => L1 (impl_Algebra_fault.st1 g0 g1 x2 x3)) ((impl_Algebra_fault.k1g N L0 (impl_Algebra_fault.k0 N K g0 g1)) (.exit 2) (impl_Algebra_fault.sx1_0 g0 g1 x2)) g0 x3) := by
  have h := impl_Algebra_fault.b1_gen N K L1 (impl_Algebra_fault.k1g N L0 (impl_Algebra_fault.k0 N K g0 g1)) g0 g1 x2 x3
  rw [impl_Algebra_fault.k1_mix] at h
  exact h

theorem impl_Algebra_fault.a1_0_gen {ρ : Type} (N : Nat) (K : AV → Heap → Option ρ) (L0 : St → Option ρ) (kv : XE → St → Option ρ) (g0 : Nat → Int) (g1 : Nat → Int) (x2 : Int) :
    (impl_Algebra_fault.k1g N L0 (mixK (impl_Algebra_fault.fin N K g0 g1 .ret) kv)) (.exit 2) (impl_Algebra_fault.sx1_0 g0 g1 x2) = (impl_Algebra_fault.a1_0 N (fun d0 d1 d2 => K (.slice 2 0 d0 (some d1) 1) [⟨false, .ints .i64 2 g0⟩, ⟨false, .ints .u8 520 g1⟩, ⟨true, .ints .i64 3 d2⟩]) (K (.nils) [⟨false, .ints .i64 2 g0⟩, ⟨false, .ints .u8 520 g1⟩]) (fun x2 => L0 (impl_Algebra_fault.st0 g0 g1 x2)) (kv (.exit 0) (impl_Algebra_fault.sx0_0 g0 g1)) x2) := by kernel_rfl

theorem impl_Algebra_fault.a1_0_eq {ρ : Type} (N : Nat) (K : AV → Heap → Option ρ) (L0 : St → Option ρ) (g0 : Nat → Int) (g1 : Nat → Int) (x2 : Int) :
    (impl_Algebra_fault.k1g N L0 (impl_Algebra_fault.k0 N K g0 g1)) (.exit 2) (impl_Algebra_fault.sx1_0 g0 g1 x2) = (impl_Algebra_fault.a1_0 N (fun d0 d1 d2 => K (.slice 2 0 d0 (some d1) 1) [⟨false, .ints .i64 2 g0⟩, ⟨false, .ints .u8 520 g1⟩, ⟨true, .ints .i64 3 d2⟩]) (K (.nils) [⟨false, .ints .i64 2 g0⟩, ⟨false, .ints .u8 520 g1⟩]) (fun x2 => L0 (impl_Algebra_fault.st0 g0 g1 x2)) ((impl_Algebra_fault.k0 N K g0 g1) (.exit 0) (impl_Algebra_fault.sx0_0 g0 g1)) x2) := by
  have h := impl_Algebra_fault.a1_0_gen N K L0 (impl_Algebra_fault.k0 N K g0 g1) g0 g1 x2
  rw [impl_Algebra_fault.k0_mix] at h
  exact h

theorem impl_Algebra_fault.b0_gen {ρ : Type} (N : Nat) (K : AV → Heap → Option ρ) (L0 : St → Option ρ) (kv : XE → St → Option ρ) (g0 : Nat → Int) (g1 : Nat → Int) (x2 : Int) :
    xcode (E30 N) ents impl_Algebra_fault.kp 2 N (cL (cK (cB (cA (cB (cB impl_Algebra_fault.bd)))))) 0 (impl_Algebra_fault.st0 g0 g1 x2) (roundK impl_Algebra_fault.kp 2 0 L0 (mixK (impl_Algebra_fault.fin N K g0 g1 .ret) kv)) = (impl_Algebra_fault.b0 N (fun d0 d1 d2 => K (.slice 2 0 d0 (some d1) 1) [⟨false, .ints .i64 2 g0⟩, ⟨false, .ints .u8 520 g1⟩, ⟨true, .ints .i64 3 d2⟩]) (K (.nils) [⟨false, .ints .i64 2 g0⟩, ⟨false, .ints .u8 520 g1⟩]) (fun x3 => xloop (xcode (E30 N) ents impl_Algebra_fault.kp 2 N (cL (cK (cB (cB (cK (cA (cB (cB (cL (cK (cB (cA (cB (cB impl_Algebra_fault.bd)))))))))))))) 2) impl_Algebra_fault.kp 2 2 N (impl_Algebra_fault.st1 g0 g1 x2 x3) (impl_Algebra_fault.k1g N L0 (mixK (impl_Algebra_fault.fin N K g0 g1 .ret) kv))) (fun x2 => L0 (impl_Algebra_fault.st0 g0 g1 x2)) (kv (.exit 0) (impl_Algebra_fault.sx0_0 g0 g1)) g0 x2) := by kernel_rfl

theorem impl_Algebra_fault.b0_eq {ρ : Type} (N : Nat) (K : AV → Heap → Option ρ) (L0 : St → Option ρ) (g0 : Nat → Int) (g1 : Nat → Int) (x2 : Int) :
    xcode (E30 N) ents impl_Algebra_fault.kp 2 N (cL (cK (cB (cA (cB (cB impl_Algebra_fault.bd)))))) 0 (impl_Algebra_fault.st0 g0 g1 x2) (roundK impl_Algebra_fault.kp 2 0 L0 (impl_Algebra_fault.k0 N K g0 g1)) = (impl_Algebra_fault.b0 N (fun d0 d1 d2 => K (.slice 2 0 d0 (some d1) 1) [⟨false, .ints .i64 2 g0⟩, ⟨false, .ints .u8 520 g1⟩, ⟨true, .ints .i64 3 d2⟩]) (K (.nils) [⟨false, .ints .i64 2 g0⟩, ⟨false, .ints .u8 520 g1⟩]) (fun x3 => xloop (xcode (E30 N) ents impl_Algebra_fault.kp 2 N (cL (cK (cB (cB (cK (cA (cB (cB (cL (cK (cB (cA (cB (cB impl_Algebra_fault.bd)))))))))))))) 2) impl_Algebra_fault.kp 2 2 N (impl_Algebra_fault.st1 g0 g1 x2 x3) (impl_Algebra_fault.k1g N L0 (impl_Algebra_fault.k0 N K g0 g1))) (fun x2 => L0 (impl_Algebra_fault.st0 g0 g1 x2)) ((impl_Algebra_fault.k0 N K g0 g1) (.exit 0) (impl_Algebra_fault.sx0_0 g0 g1)) g0 x2) := by
  have h := impl_Algebra_fault.b0_gen N K L0 (impl_Algebra_fault.k0 N K g0 g1) g0 g1 x2
  rw [impl_Algebra_fault.k0_mix] at h
  exact h

theorem impl_Algebra_fault.a0_0_eq {ρ : Type} (N : Nat) (K : AV → Heap → Option ρ) (g0 : Nat → Int) (g1 : Nat → Int) :
    (impl_Algebra_fault.k0 N K g0 g1) (.exit 0) (impl_Algebra_fault.sx0_0 g0 g1) = (impl_Algebra_fault.a0_0 N (fun d0 d1 d2 => K (.slice 2 0 d0 (some d1) 1) [⟨false, .ints .i64 2 g0⟩, ⟨false, .ints .u8 520 g1⟩, ⟨true, .ints .i64 3 d2⟩]) (K (.nils) [⟨false, .ints .i64 2 g0⟩, ⟨false, .ints .u8 520 g1⟩])) := by kernel_rfl

theorem impl_Algebra_fault.l2_eq {ρ : Type} (N : Nat) (K : AV → Heap → Option ρ) (L0 : St → Option ρ) (L1 : St → Option ρ) (g0 : Nat → Int) (g1 : Nat → Int) (x2 : Int) (x3 : Int) :
    ∀ (m : Nat) (x4 : Int), xloop (xcode (E30 N) ents impl_Algebra_fault.kp 2 N (cL (cK (cB (cB (cK (cA (cB (cB (cL (cK (cB (cB (cK (cA (cB (cB (cL (cK (cB (cA (cB (cB impl_Algebra_fault.bd)))))))))))))))))))))) 4) impl_Algebra_fault.kp 2 4 m (impl_Algebra_fault.st2 g0 g1 x2 x3 x4) (impl_Algebra_fault.k2g N L1 (impl_Algebra_fault.k1g N L0 (impl_Algebra_fault.k0 N K g0 g1))) = (impl_Algebra_fault.l2 N (fun d0 d1 d2 => K (.slice 2 0 d0 (some d1) 1) [⟨false, .ints .i64 2 g0⟩, ⟨false, .ints .u8 520 g1⟩, ⟨true, .ints .i64 3 d2⟩]) (K (.nils) [⟨false, .ints .i64 2 g0⟩, ⟨false, .ints .u8 520 g1⟩]) g0 g1 x2 x3 ((impl_Algebra_fault.k2g N L1 (impl_Algebra_fault.k1g N L0 (impl_Algebra_fault.k0 N K g0 g1))) (.exit 4) (impl_Algebra_fault.sx2_0 g0 g1 x2 x3)) m x4) := by
  intro m
  induction m with
  | zero => intros; rfl
  | succ m ih =>
    intro x4
    refine (impl_Algebra_fault.b2_eq N K L0 L1 (fun s => xloop (xcode (E30 N) ents impl_Algebra_fault.kp 2 N (cL (cK (cB (cB (cK (cA (cB (cB (cL (cK (cB (cB (cK (cA (cB (cB (cL (cK (cB (cA (cB (cB impl_Algebra_fault.bd)))))))))))))))))))))) 4) impl_Algebra_fault.kp 2 4 m s (impl_Algebra_fault.k2g N L1 (impl_Algebra_fault.k1g N L0 (impl_Algebra_fault.k0 N K g0 g1)))) g0 g1 x2 x3 x4).trans ?_
    simp only [ih]
    kernel_rfl

theorem impl_Algebra_fault.l1_eq {ρ : Type} (N : Nat) (K : AV → Heap → Option ρ) (L0 : St → Option ρ) (g0 : Nat → Int) (g1 : Nat → Int) (x2 : Int) :
    ∀ (m : Nat) (x3 : Int), xloop (xcode (E30 N) ents impl_Algebra_fault.kp 2 N (cL (cK (cB (cB (cK (cA (cB (cB (cL (cK (cB (cA (cB (cB impl_Algebra_fault.bd)))))))))))))) 2) impl_Algebra_fault.kp 2 2 m (impl_Algebra_fault.st1 g0 g1 x2 x3) (impl_Algebra_fault.k1g N L0 (impl_Algebra_fault.k0 N K g0 g1)) = (impl_Algebra_fault.l1 N (fun d0 d1 d2 => K (.slice 2 0 d0 (some d1) 1) [⟨false, .ints .i64 2 g0⟩, ⟨false, .ints .u8 520 g1⟩, ⟨true, .ints .i64 3 d2⟩]) (K (.nils) [⟨false, .ints .i64 2 g0⟩, ⟨false, .ints .u8 520 g1⟩]) g0 g1 x2 ((impl_Algebra_fault.k1g N L0 (impl_Algebra_fault.k0 N K g0 g1)) (.exit 2) (impl_Algebra_fault.sx1_0 g0 g1 x2)) m x3) := by
  intro m
  induction m with
  | zero => intros; rfl
  | succ m ih =>
    intro x3
    refine (impl_Algebra_fault.b1_eq N K L0 (fun s => xloop (xcode (E30 N) ents impl_Algebra_fault.kp 2 N (cL (cK (cB (cB (cK (cA (cB (cB (cL (cK (cB (cA (cB (cB impl_Algebra_fault.bd)))))))))))))) 2) impl_Algebra_fault.kp 2 2 m s (impl_Algebra_fault.k1g N L0 (impl_Algebra_fault.k0 N K g0 g1))) g0 g1 x2 x3).trans ?_
    simp only [ih, impl_Algebra_fault.l2_eq, impl_Algebra_fault.a2_0_eq]
    kernel_rfl

theorem impl_Algebra_fault.l0_eq {ρ : Type} (N : Nat) (K : AV → Heap → Option ρ) (g0 : Nat → Int) (g1 : Nat → Int) :
    ∀ (m : Nat) (x2 : Int), xloop (xcode (E30 N) ents impl_Algebra_fault.kp 2 N (cL (cK (cB (cA (cB (cB impl_Algebra_fault.bd)))))) 0) impl_Algebra_fault.kp 2 0 m (impl_Algebra_fault.st0 g0 g1 x2) (impl_Algebra_fault.k0 N K g0 g1) = (impl_Algebra_fault.l0 N (fun d0 d1 d2 => K (.slice 2 0 d0 (some d1) 1) [⟨false, .ints .i64 2 g0⟩, ⟨false, .ints .u8 520 g1⟩, ⟨true, .ints .i64 3 d2⟩]) (K (.nils) [⟨false, .ints .i64 2 g0⟩, ⟨false, .ints .u8 520 g1⟩]) g0 g1 ((impl_Algebra_fault.k0 N K g0 g1) (.exit 0) (impl_Algebra_fault.sx0_0 g0 g1)) m x2) := by
  intro m
  induction m with
  | zero => intros; rfl
  | succ m ih =>
    intro x2
    refine (impl_Algebra_fault.b0_eq N K (fun s => xloop (xcode (E30 N) ents impl_Algebra_fault.kp 2 N (cL (cK (cB (cA (cB (cB impl_Algebra_fault.bd)))))) 0) impl_Algebra_fault.kp 2 0 m s (impl_Algebra_fault.k0 N K g0 g1)) g0 g1 x2).trans ?_
    simp only [ih, impl_Algebra_fault.l1_eq, impl_Algebra_fault.a1_0_eq]
    kernel_rfl

theorem impl_Algebra_fault.s_eq {ρ : Type} (N : Nat) (K : AV → Heap → Option ρ) (g0 : Nat → Int) (g1 : Nat → Int) :
    xbody (E30 N) ents impl_Algebra_fault.kp N Go.Proofs.Try.f53 impl_Algebra_fault.bd [.sptr [(0, 2), (1, 520)]] [⟨false, .ints .i64 2 g0⟩, ⟨false, .ints .u8 520 g1⟩] K = (impl_Algebra_fault.s N (fun d0 d1 d2 => K (.slice 2 0 d0 (some d1) 1) [⟨false, .ints .i64 2 g0⟩, ⟨false, .ints .u8 520 g1⟩, ⟨true, .ints .i64 3 d2⟩]) (K (.nils) [⟨false, .ints .i64 2 g0⟩, ⟨false, .ints .u8 520 g1⟩]) (fun x2 => xloop (xcode (E30 N) ents impl_Algebra_fault.kp 2 N (cL (cK (cB (cA (cB (cB impl_Algebra_fault.bd)))))) 0) impl_Algebra_fault.kp 2 0 N (impl_Algebra_fault.st0 g0 g1 x2) (impl_Algebra_fault.k0 N K g0 g1))) := by kernel_rfl

theorem impl_Algebra_fault.eq {ρ : Type} (N : Nat) (K : AV → Heap → Option ρ) (g0 : Nat → Int) (g1 : Nat → Int) :
    xbody (E30 N) ents impl_Algebra_fault.kp N Go.Proofs.Try.f53 impl_Algebra_fault.bd [.sptr [(0, 2), (1, 520)]] [⟨false, .ints .i64 2 g0⟩, ⟨false, .ints .u8 520 g1⟩] K = (impl_Algebra_fault N (fun d0 d1 d2 => K (.slice 2 0 d0 (some d1) 1) [⟨false, .ints .i64 2 g0⟩, ⟨false, .ints .u8 520 g1⟩, ⟨true, .ints .i64 3 d2⟩]) (K (.nils) [⟨false, .ints .i64 2 g0⟩, ⟨false, .ints .u8 520 g1⟩]) g0 g1) := by
  refine (impl_Algebra_fault.s_eq N K g0 g1).trans ?_
  simp only [impl_Algebra_fault.l0_eq, impl_Algebra_fault.a0_0_eq]
  kernel_rfl

noncomputable def impl_Algebra_fault.en (N : Nat) (ρ : Type) : List AV → Heap → (AV → Heap → Option ρ) → Option ρ
  | [.sptr [(0, 2), (1, 520)]], [⟨false, .ints .i64 2 g0⟩, ⟨false, .ints .u8 520 g1⟩], K => (impl_Algebra_fault N (fun d0 d1 d2 => K (.slice 2 0 d0 (some d1) 1) [⟨false, .ints .i64 2 g0⟩, ⟨false, .ints .u8 520 g1⟩, ⟨true, .ints .i64 3 d2⟩]) (K (.nils) [⟨false, .ints .i64 2 g0⟩, ⟨false, .ints .u8 520 g1⟩]) g0 g1)
  | _, _, _ => none

theorem impl_Algebra_fault.en_ok (N : Nat) (hE : EnvOk (E30 N) ents) (ρ : Type) (args : List AV) (sh : Heap) (K : AV → Heap → Option ρ) (r : ρ) (h : impl_Algebra_fault.en N ρ args sh K = some r) : ∃ v sh', K v sh' = some r ∧ FnOk (E30 N).P 53 args sh v sh' := by
  unfold impl_Algebra_fault.en at h
  split at h
  · exact fn_ok hE (kp := impl_Algebra_fault.kp) (N := N) Go.Proofs.Try.func53 (c := impl_Algebra_fault.bd) (by kernel_rfl) ((impl_Algebra_fault.eq N _ _ _).trans h)
  · cases h

noncomputable def E31 (N : Nat) : Env := (E30 N).add 53 (impl_Algebra_fault.en N)

theorem E31_ok (N : Nat) : EnvOk (E31 N) ents := Env.add_ok (E30_ok N) (impl_Algebra_fault.en_ok N (E30_ok N))

noncomputable def impl_IsAlgebra.kp : Keeps := ⟨[(0, [1, 8, 9], 2)], [(0, [1], 2)]⟩

noncomputable def impl_IsAlgebra.bd : Code := bodyOf Go.Proofs.Try.f16

noncomputable def impl_IsAlgebra.fin {ρ : Type} (N : Nat) (K : AV → Heap → Option ρ) : XE → St → Option ρ := finK (E31 N) Go.Proofs.Try.f16 [] K

noncomputable def impl_IsAlgebra.k0 {ρ : Type} (N : Nat) (K : AV → Heap → Option ρ) : XE → St → Option ρ := (blockK impl_IsAlgebra.kp 0 0 (seqK (xcode (E31 N) ents impl_IsAlgebra.kp 0 N (cB (cB (cB impl_IsAlgebra.bd))) 0) (impl_IsAlgebra.fin N K)))

theorem impl_IsAlgebra.k0_mix {ρ : Type} (N : Nat) (K : AV → Heap → Option ρ) : mixK (impl_IsAlgebra.fin N K .ret) (impl_IsAlgebra.k0 N K) = (impl_IsAlgebra.k0 N K) := by
  funext e s; cases e <;> rfl

noncomputable def impl_IsAlgebra.st0 (a0 : Nat → Int) (a1 : Nat → Int) (x3 : Int) : St := ⟨sl 31 [(1, .sptr [(0, 2), (1, 520)]), (8, .int .i64 ((a0 1))), (9, .int .i64 (x3))], [⟨true, .ints .i64 2 a0⟩, ⟨true, .ints .u8 520 a1⟩]⟩

noncomputable def impl_IsAlgebra.sx0_0 (a0 : Nat → Int) (a1 : Nat → Int) : St := ⟨sl 31 [(1, .sptr [(0, 2), (1, 520)])], [⟨true, .ints .i64 2 a0⟩, ⟨true, .ints .u8 520 a1⟩]⟩

theorem impl_IsAlgebra.b0_gen {ρ : Type} (N : Nat) (K : AV → Heap → Option ρ) (L0 : St → Option ρ) (kv : XE → St → Option ρ) (a0 : Nat → Int) (a1 : Nat → Int) (x3 : Int) :
    xcode (E31 N) ents impl_IsAlgebra.kp 0 N (cL (cK (cB (cA (cB (cB impl_IsAlgebra.bd)))))) 0 (impl_IsAlgebra.st0 a0 a1 x3) (roundK impl_IsAlgebra.kp 0 0 L0 (mixK (impl_IsAlgebra.fin N K .ret) kv)) = (impl_IsAlgebra.b0 N (fun d0 => K (.bool (d0)) []) (fun x3 => L0 (impl_IsAlgebra.st0 a0 a1 x3)) (kv (.exit 0) (impl_IsAlgebra.sx0_0 a0 a1)) a0 a1 x3) := by kernel_rfl

theorem impl_IsAlgebra.b0_eq {ρ : Type} (N : Nat) (K : AV → Heap → Option ρ) (L0 : St → Option ρ) (a0 : Nat → Int) (a1 : Nat → Int) (x3 : Int) :
    xcode (E31 N) ents impl_IsAlgebra.kp 0 N (cL (cK (cB (cA (cB (cB impl_IsAlgebra.bd)))))) 0 (impl_IsAlgebra.st0 a0 a1 x3) (roundK impl_IsAlgebra.kp 0 0 L0 (impl_IsAlgebra.k0 N K)) = (impl_IsAlgebra.b0 N (fun d0 => K (.bool (d0)) []) (fun x3 => L0 (impl_IsAlgebra.st0 a0 a1 x3)) ((impl_IsAlgebra.k0 N K) (.exit 0) (impl_IsAlgebra.sx0_0 a0 a1)) a0 a1 x3) := by
  have h := impl_IsAlgebra.b0_gen N K L0 (impl_IsAlgebra.k0 N K) a0 a1 x3
  rw [impl_IsAlgebra.k0_mix] at h
  exact h

theorem impl_IsAlgebra.a0_0_eq {ρ : Type} (N : Nat) (K : AV → Heap → Option ρ) (a0 : Nat → Int) (a1 : Nat → Int) :
    (impl_IsAlgebra.k0 N K) (.exit 0) (impl_IsAlgebra.sx0_0 a0 a1) = (impl_IsAlgebra.a0_0 N (fun d0 => K (.bool (d0)) []) a0 a1) := by kernel_rfl

theorem impl_IsAlgebra.l0_eq {ρ : Type} (N : Nat) (K : AV → Heap → Option ρ) (a0 : Nat → Int) (a1 : Nat → Int) :
    ∀ (m : Nat) (x3 : Int), xloop (xcode (E31 N) ents impl_IsAlgebra.kp 0 N (cL (cK (cB (cA (cB (cB impl_IsAlgebra.bd)))))) 0) impl_IsAlgebra.kp 0 0 m (impl_IsAlgebra.st0 a0 a1 x3) (impl_IsAlgebra.k0 N K) = (impl_IsAlgebra.l0 N (fun d0 => K (.bool (d0)) []) a0 a1 ((impl_IsAlgebra.k0 N K) (.exit 0) (impl_IsAlgebra.sx0_0 a0 a1)) m x3) := by
  intro m
  induction m with
  | zero => intros; rfl
  | succ m ih =>
    intro x3
    refine (impl_IsAlgebra.b0_eq N K (fun s => xloop (xcode (E31 N) ents impl_IsAlgebra.kp 0 N (cL (cK (cB (cA (cB (cB impl_IsAlgebra.bd)))))) 0) impl_IsAlgebra.kp 0 0 m s (impl_IsAlgebra.k0 N K)) a0 a1 x3).trans ?_
    simp only [ih]
    kernel_rfl

theorem impl_IsAlgebra.s_eq {ρ : Type} (N : Nat) (K : AV → Heap → Option ρ) (a0 : Nat → Int) (a1 : Nat → Int) :
    xbody (E31 N) ents impl_IsAlgebra.kp N Go.Proofs.Try.f16 impl_IsAlgebra.bd [.agg [⟨.i64, 2, a0⟩, ⟨.u8, 520, a1⟩]] [] K = (impl_IsAlgebra.s N (fun d0 => K (.bool (d0)) []) (fun x3 => xloop (xcode (E31 N) ents impl_IsAlgebra.kp 0 N (cL (cK (cB (cA (cB (cB impl_IsAlgebra.bd)))))) 0) impl_IsAlgebra.kp 0 0 N (impl_IsAlgebra.st0 a0 a1 x3) (impl_IsAlgebra.k0 N K)) a0 a1) := by kernel_rfl

theorem impl_IsAlgebra.eq {ρ : Type} (N : Nat) (K : AV → Heap → Option ρ) (a0 : Nat → Int) (a1 : Nat → Int) :
    xbody (E31 N) ents impl_IsAlgebra.kp N Go.Proofs.Try.f16 impl_IsAlgebra.bd [.agg [⟨.i64, 2, a0⟩, ⟨.u8, 520, a1⟩]] [] K = (impl_IsAlgebra N (fun d0 => K (.bool (d0)) []) a0 a1) := by
  refine (impl_IsAlgebra.s_eq N K a0 a1).trans ?_
  simp only [impl_IsAlgebra.l0_eq, impl_IsAlgebra.a0_0_eq]
  kernel_rfl

noncomputable def impl_IsAlgebra.en (N : Nat) (ρ : Type) : List AV → Heap → (AV → Heap → Option ρ) → Option ρ
  | [.agg [⟨.i64, 2, a0⟩, ⟨.u8, 520, a1⟩]], [], K => (impl_IsAlgebra N (fun d0 => K (.bool (d0)) []) a0 a1)
  | _, _, _ => none

theorem impl_IsAlgebra.en_ok (N : Nat) (hE : EnvOk (E31 N) ents) (ρ : Type) (args : List AV) (sh : Heap) (K : AV → Heap → Option ρ) (r : ρ) (h : impl_IsAlgebra.en N ρ args sh K = some r) : ∃ v sh', K v sh' = some r ∧ FnOk (E31 N).P 16 args sh v sh' := by
  unfold impl_IsAlgebra.en at h
  split at h
  · exact fn_ok hE (kp := impl_IsAlgebra.kp) (N := N) Go.Proofs.Try.func16 (c := impl_IsAlgebra.bd) (by kernel_rfl) ((impl_IsAlgebra.eq N _ _ _).trans h)
  · cases h

noncomputable def E32 (N : Nat) : Env := (E31 N).add 16 (impl_IsAlgebra.en N)

theorem E32_ok (N : Nat) : EnvOk (E32 N) ents := Env.add_ok (E31_ok N) (impl_IsAlgebra.en_ok N (E31_ok N))

noncomputable def laws_FnExactIsAlgebra.kp : Keeps := ⟨[], []⟩

noncomputable def laws_FnExactIsAlgebra.bd : Code := bodyOf Go.Proofs.Try.f3

noncomputable def laws_FnExactIsAlgebra.fin {ρ : Type} (N : Nat) (K : AV → Heap → Option ρ) : XE → St → Option ρ := finK (E32 N) Go.Proofs.Try.f3 [] K

theorem laws_FnExactIsAlgebra.eq {ρ : Type} (N : Nat) (K : AV → Heap → Option ρ) (aA0 : Nat → Int) (aA1 : Nat → Int) :
    xbody (E32 N) ents laws_FnExactIsAlgebra.kp N Go.Proofs.Try.f3 laws_FnExactIsAlgebra.bd [.agg [⟨.i64, 2, aA0⟩, ⟨.u8, 520, aA1⟩]] [] K = (laws_FnExactIsAlgebra N (fun d0 => K (.bool (d0)) []) aA0 aA1) := by kernel_rfl

noncomputable def laws_FnExactIsAlgebra.en (N : Nat) (ρ : Type) : List AV → Heap → (AV → Heap → Option ρ) → Option ρ
  | [.agg [⟨.i64, 2, aA0⟩, ⟨.u8, 520, aA1⟩]], [], K => (laws_FnExactIsAlgebra N (fun d0 => K (.bool (d0)) []) aA0 aA1)
  | _, _, _ => none

theorem laws_FnExactIsAlgebra.en_ok (N : Nat) (hE : EnvOk (E32 N) ents) (ρ : Type) (args : List AV) (sh : Heap) (K : AV → Heap → Option ρ) (r : ρ) (h : laws_FnExactIsAlgebra.en N ρ args sh K = some r) : ∃ v sh', K v sh' = some r ∧ FnOk (E32 N).P 3 args sh v sh' := by
  unfold laws_FnExactIsAlgebra.en at h
  split at h
  · exact fn_ok hE (kp := laws_FnExactIsAlgebra.kp) (N := N) Go.Proofs.Try.func3 (c := laws_FnExactIsAlgebra.bd) (by kernel_rfl) ((laws_FnExactIsAlgebra.eq N _ _ _).trans h)
  · cases h

noncomputable def E33 (N : Nat) : Env := (E32 N).add 3 (laws_FnExactIsAlgebra.en N)

theorem E33_ok (N : Nat) : EnvOk (E33 N) ents := Env.add_ok (E32_ok N) (laws_FnExactIsAlgebra.en_ok N (E32_ok N))

noncomputable def spec_FirstFault.kp : Keeps := ⟨[], []⟩

noncomputable def spec_FirstFault.bd : Code := bodyOf Go.Proofs.Try.f17

noncomputable def spec_FirstFault.fin {ρ : Type} (N : Nat) (K : AV → Heap → Option ρ) : XE → St → Option ρ := finK (E33 N) Go.Proofs.Try.f17 [] K

theorem spec_FirstFault.eq {ρ : Type} (N : Nat) (K : AV → Heap → Option ρ) (a0 : Nat → Int) (a1 : Nat → Int) :
    xbody (E33 N) ents spec_FirstFault.kp N Go.Proofs.Try.f17 spec_FirstFault.bd [.agg [⟨.i64, 2, a0⟩, ⟨.u8, 520, a1⟩]] [] K = (spec_FirstFault N (fun d0 => K (.tup [.nils, .int .i64 (d0)]) []) (fun d0 d1 d2 d3 => K (.tup [.slice 0 0 d0 (some d1) 1, .int .i64 (d2)]) [⟨true, .ints .i64 3 d3⟩]) a0 a1) := by kernel_rfl

noncomputable def spec_FirstFault.en (N : Nat) (ρ : Type) : List AV → Heap → (AV → Heap → Option ρ) → Option ρ
  | [.agg [⟨.i64, 2, a0⟩, ⟨.u8, 520, a1⟩]], [], K => (spec_FirstFault N (fun d0 => K (.tup [.nils, .int .i64 (d0)]) []) (fun d0 d1 d2 d3 => K (.tup [.slice 0 0 d0 (some d1) 1, .int .i64 (d2)]) [⟨true, .ints .i64 3 d3⟩]) a0 a1)
  | _, _, _ => none

theorem spec_FirstFault.en_ok (N : Nat) (hE : EnvOk (E33 N) ents) (ρ : Type) (args : List AV) (sh : Heap) (K : AV → Heap → Option ρ) (r : ρ) (h : spec_FirstFault.en N ρ args sh K = some r) : ∃ v sh', K v sh' = some r ∧ FnOk (E33 N).P 17 args sh v sh' := by
  unfold spec_FirstFault.en at h
  split at h
  · exact fn_ok hE (kp := spec_FirstFault.kp) (N := N) Go.Proofs.Try.func17 (c := spec_FirstFault.bd) (by kernel_rfl) ((spec_FirstFault.eq N _ _ _).trans h)
  · cases h

noncomputable def E34 (N : Nat) : Env := (E33 N).add 17 (spec_FirstFault.en N)

theorem E34_ok (N : Nat) : EnvOk (E34 N) ents := Env.add_ok (E33_ok N) (spec_FirstFault.en_ok N (E33_ok N))

noncomputable def impl_unless.kp : Keeps := ⟨[], []⟩

noncomputable def impl_unless.bd : Code := bodyOf Go.Proofs.Try.f56

noncomputable def impl_unless.fin {ρ : Type} (N : Nat) (K : AV → Heap → Option ρ) : XE → St → Option ρ := finK (E34 N) Go.Proofs.Try.f56 [] K

theorem impl_unless.eq {ρ : Type} (N : Nat) (K : AV → Heap → Option ρ) (so0 : Bool) (code1 : Int) :
    xbody (E34 N) ents impl_unless.kp N Go.Proofs.Try.f56 impl_unless.bd [.bool (so0), .int .i64 (code1)] [] K = (impl_unless N (fun d0 => K (.int .i64 (d0)) []) so0 code1) := by kernel_rfl

noncomputable def impl_unless.en (N : Nat) (ρ : Type) : List AV → Heap → (AV → Heap → Option ρ) → Option ρ
  | [.bool (so0), .int .i64 (code1)], [], K => (impl_unless N (fun d0 => K (.int .i64 (d0)) []) so0 code1)
  | _, _, _ => none

theorem impl_unless.en_ok (N : Nat) (hE : EnvOk (E34 N) ents) (ρ : Type) (args : List AV) (sh : Heap) (K : AV → Heap → Option ρ) (r : ρ) (h : impl_unless.en N ρ args sh K = some r) : ∃ v sh', K v sh' = some r ∧ FnOk (E34 N).P 56 args sh v sh' := by
  unfold impl_unless.en at h
  split at h
  · exact fn_ok hE (kp := impl_unless.kp) (N := N) Go.Proofs.Try.func56 (c := impl_unless.bd) (by kernel_rfl) ((impl_unless.eq N _ _ _).trans h)
  · cases h

noncomputable def E35 (N : Nat) : Env := (E34 N).add 56 (impl_unless.en N)

theorem E35_ok (N : Nat) : EnvOk (E35 N) ents := Env.add_ok (E34_ok N) (impl_unless.en_ok N (E34_ok N))

noncomputable def impl_FirstFault.kp : Keeps := ⟨[], []⟩

noncomputable def impl_FirstFault.bd : Code := bodyOf Go.Proofs.Try.f18

noncomputable def impl_FirstFault.fin {ρ : Type} (N : Nat) (K : AV → Heap → Option ρ) : XE → St → Option ρ := finK (E35 N) Go.Proofs.Try.f18 [] K

theorem impl_FirstFault.eq {ρ : Type} (N : Nat) (K : AV → Heap → Option ρ) (a0 : Nat → Int) (a1 : Nat → Int) :
    xbody (E35 N) ents impl_FirstFault.kp N Go.Proofs.Try.f18 impl_FirstFault.bd [.agg [⟨.i64, 2, a0⟩, ⟨.u8, 520, a1⟩]] [] K = (impl_FirstFault N (fun d0 => K (.tup [.nils, .int .i64 (d0)]) []) (fun d0 d1 d2 d3 => K (.tup [.slice 0 0 d0 (some d1) 1, .int .i64 (d2)]) [⟨true, .ints .i64 3 d3⟩]) a0 a1) := by kernel_rfl

noncomputable def impl_FirstFault.en (N : Nat) (ρ : Type) : List AV → Heap → (AV → Heap → Option ρ) → Option ρ
  | [.agg [⟨.i64, 2, a0⟩, ⟨.u8, 520, a1⟩]], [], K => (impl_FirstFault N (fun d0 => K (.tup [.nils, .int .i64 (d0)]) []) (fun d0 d1 d2 d3 => K (.tup [.slice 0 0 d0 (some d1) 1, .int .i64 (d2)]) [⟨true, .ints .i64 3 d3⟩]) a0 a1)
  | _, _, _ => none

theorem impl_FirstFault.en_ok (N : Nat) (hE : EnvOk (E35 N) ents) (ρ : Type) (args : List AV) (sh : Heap) (K : AV → Heap → Option ρ) (r : ρ) (h : impl_FirstFault.en N ρ args sh K = some r) : ∃ v sh', K v sh' = some r ∧ FnOk (E35 N).P 18 args sh v sh' := by
  unfold impl_FirstFault.en at h
  split at h
  · exact fn_ok hE (kp := impl_FirstFault.kp) (N := N) Go.Proofs.Try.func18 (c := impl_FirstFault.bd) (by kernel_rfl) ((impl_FirstFault.eq N _ _ _).trans h)
  · cases h

noncomputable def E36 (N : Nat) : Env := (E35 N).add 18 (impl_FirstFault.en N)

theorem E36_ok (N : Nat) : EnvOk (E36 N) ents := Env.add_ok (E35_ok N) (impl_FirstFault.en_ok N (E35_ok N))

noncomputable def laws_eqInt64S_nn.kp : Keeps := ⟨[(0, [0, 1, 5], 0)], [(0, [], 0)]⟩

noncomputable def laws_eqInt64S_nn.bd : Code := bodyOf Go.Proofs.Try.f19

noncomputable def laws_eqInt64S_nn.fin {ρ : Type} (N : Nat) (K : AV → Heap → Option ρ) : XE → St → Option ρ := finK (E36 N) Go.Proofs.Try.f19 [] K

noncomputable def laws_eqInt64S_nn.k0 {ρ : Type} (N : Nat) (K : AV → Heap → Option ρ) : XE → St → Option ρ := (blockK laws_eqInt64S_nn.kp 0 0 (seqK (xcode (E36 N) ents laws_eqInt64S_nn.kp 0 N (cB (cB (cB laws_eqInt64S_nn.bd))) 0) (laws_eqInt64S_nn.fin N K)))

theorem laws_eqInt64S_nn.k0_mix {ρ : Type} (N : Nat) (K : AV → Heap → Option ρ) : mixK (laws_eqInt64S_nn.fin N K .ret) (laws_eqInt64S_nn.k0 N K) = (laws_eqInt64S_nn.k0 N K) := by
  funext e s; cases e <;> rfl

noncomputable def laws_eqInt64S_nn.st0 : St := ⟨sl 26 [(0, .nils), (1, .nils), (5, .int .i64 0)], []⟩

noncomputable def laws_eqInt64S_nn.sx0_0 : St := ⟨sl 26 [], []⟩

theorem laws_eqInt64S_nn.b0_gen {ρ : Type} (N : Nat) (K : AV → Heap → Option ρ) (L0 : St → Option ρ) (kv : XE → St → Option ρ) :
    xcode (E36 N) ents laws_eqInt64S_nn.kp 0 N (cL (cK (cB (cA (cB (cB laws_eqInt64S_nn.bd)))))) 0 (laws_eqInt64S_nn.st0) (roundK laws_eqInt64S_nn.kp 0 0 L0 (mixK (laws_eqInt64S_nn.fin N K .ret) kv)) = (laws_eqInt64S_nn.b0 N (fun d0 => K (.bool (d0)) []) (L0 (laws_eqInt64S_nn.st0)) (kv (.exit 0) (laws_eqInt64S_nn.sx0_0))) := by kernel_rfl

theorem laws_eqInt64S_nn.b0_eq {ρ : Type} (N : Nat) (K : AV → Heap → Option ρ) (L0 : St → Option ρ) :
    xcode (E36 N) ents laws_eqInt64S_nn.kp 0 N (cL (cK (cB (cA (cB (cB laws_eqInt64S_nn.bd)))))) 0 (laws_eqInt64S_nn.st0) (roundK laws_eqInt64S_nn.kp 0 0 L0 (laws_eqInt64S_nn.k0 N K)) = (laws_eqInt64S_nn.b0 N (fun d0 => K (.bool (d0)) []) (L0 (laws_eqInt64S_nn.st0)) ((laws_eqInt64S_nn.k0 N K) (.exit 0) (laws_eqInt64S_nn.sx0_0))) := by
  have h := laws_eqInt64S_nn.b0_gen N K L0 (laws_eqInt64S_nn.k0 N K) 
  rw [laws_eqInt64S_nn.k0_mix] at h
  exact h

theorem laws_eqInt64S_nn.a0_0_eq {ρ : Type} (N : Nat) (K : AV → Heap → Option ρ) :
    (laws_eqInt64S_nn.k0 N K) (.exit 0) (laws_eqInt64S_nn.sx0_0) = (laws_eqInt64S_nn.a0_0 N (fun d0 => K (.bool (d0)) [])) := by kernel_rfl

theorem laws_eqInt64S_nn.l0_eq {ρ : Type} (N : Nat) (K : AV → Heap → Option ρ) :
    ∀ (m : Nat), xloop (xcode (E36 N) ents laws_eqInt64S_nn.kp 0 N (cL (cK (cB (cA (cB (cB laws_eqInt64S_nn.bd)))))) 0) laws_eqInt64S_nn.kp 0 0 m (laws_eqInt64S_nn.st0) (laws_eqInt64S_nn.k0 N K) = (laws_eqInt64S_nn.l0 N (fun d0 => K (.bool (d0)) []) ((laws_eqInt64S_nn.k0 N K) (.exit 0) (laws_eqInt64S_nn.sx0_0)) m) := by
  intro m
  induction m with
  | zero => intros; rfl
  | succ m ih =>
    refine (laws_eqInt64S_nn.b0_eq N K (fun s => xloop (xcode (E36 N) ents laws_eqInt64S_nn.kp 0 N (cL (cK (cB (cA (cB (cB laws_eqInt64S_nn.bd)))))) 0) laws_eqInt64S_nn.kp 0 0 m s (laws_eqInt64S_nn.k0 N K)) ).trans ?_
    simp only [ih]
    kernel_rfl

theorem laws_eqInt64S_nn.s_eq {ρ : Type} (N : Nat) (K : AV → Heap → Option ρ) :
    xbody (E36 N) ents laws_eqInt64S_nn.kp N Go.Proofs.Try.f19 laws_eqInt64S_nn.bd [.nils, .nils] [] K = (laws_eqInt64S_nn.s N (fun d0 => K (.bool (d0)) []) (xloop (xcode (E36 N) ents laws_eqInt64S_nn.kp 0 N (cL (cK (cB (cA (cB (cB laws_eqInt64S_nn.bd)))))) 0) laws_eqInt64S_nn.kp 0 0 N (laws_eqInt64S_nn.st0) (laws_eqInt64S_nn.k0 N K))) := by kernel_rfl

theorem laws_eqInt64S_nn.eq {ρ : Type} (N : Nat) (K : AV → Heap → Option ρ) :
    xbody (E36 N) ents laws_eqInt64S_nn.kp N Go.Proofs.Try.f19 laws_eqInt64S_nn.bd [.nils, .nils] [] K = (laws_eqInt64S_nn N (fun d0 => K (.bool (d0)) [])) := by
  refine (laws_eqInt64S_nn.s_eq N K ).trans ?_
  simp only [laws_eqInt64S_nn.l0_eq, laws_eqInt64S_nn.a0_0_eq]
  kernel_rfl

noncomputable def laws_eqInt64S_sn.kp : Keeps := ⟨[(0, [0, 1, 5], 1)], [(0, [], 1)]⟩

noncomputable def laws_eqInt64S_sn.bd : Code := bodyOf Go.Proofs.Try.f19

noncomputable def laws_eqInt64S_sn.fin {ρ : Type} (N : Nat) (K : AV → Heap → Option ρ) (g2 : Nat) (g3 : Nat → Int) : XE → St → Option ρ := finK (E36 N) Go.Proofs.Try.f19 [⟨false, .ints .i64 g2 g3⟩] K

noncomputable def laws_eqInt64S_sn.k0 {ρ : Type} (N : Nat) (K : AV → Heap → Option ρ) (g2 : Nat) (g3 : Nat → Int) : XE → St → Option ρ := (blockK laws_eqInt64S_sn.kp 1 0 (seqK (xcode (E36 N) ents laws_eqInt64S_sn.kp 1 N (cB (cB (cB laws_eqInt64S_sn.bd))) 0) (laws_eqInt64S_sn.fin N K g2 g3)))

theorem laws_eqInt64S_sn.k0_mix {ρ : Type} (N : Nat) (K : AV → Heap → Option ρ) (g2 : Nat) (g3 : Nat → Int) : mixK (laws_eqInt64S_sn.fin N K g2 g3 .ret) (laws_eqInt64S_sn.k0 N K g2 g3) = (laws_eqInt64S_sn.k0 N K g2 g3) := by
  funext e s; cases e <;> rfl

noncomputable def laws_eqInt64S_sn.st0 (a0 : Nat) (a1 : Nat) (g2 : Nat) (g3 : Nat → Int) : St := ⟨sl 26 [(0, .slice 0 0 a0 (some a1) 1), (1, .nils), (5, .int .i64 0)], [⟨false, .ints .i64 g2 g3⟩]⟩

noncomputable def laws_eqInt64S_sn.sx0_0 (g2 : Nat) (g3 : Nat → Int) : St := ⟨sl 26 [], [⟨false, .ints .i64 g2 g3⟩]⟩

theorem laws_eqInt64S_sn.b0_gen {ρ : Type} (N : Nat) (K : AV → Heap → Option ρ) (L0 : St → Option ρ) (kv : XE → St → Option ρ) (a0 : Nat) (a1 : Nat) (g2 : Nat) (g3 : Nat → Int) :
    xcode (E36 N) ents laws_eqInt64S_sn.kp 1 N (cL (cK (cB (cA (cB (cB laws_eqInt64S_sn.bd)))))) 0 (laws_eqInt64S_sn.st0 a0 a1 g2 g3) (roundK laws_eqInt64S_sn.kp 1 0 L0 (mixK (laws_eqInt64S_sn.fin N K g2 g3 .ret) kv)) = (laws_eqInt64S_sn.b0 N (fun d0 => K (.bool (d0)) [⟨false, .ints .i64 g2 g3⟩]) (L0 (laws_eqInt64S_sn.st0 a0 a1 g2 g3)) (kv (.exit 0) (laws_eqInt64S_sn.sx0_0 g2 g3)) a0) := by kernel_rfl

theorem laws_eqInt64S_sn.b0_eq {ρ : Type} (N : Nat) (K : AV → Heap → Option ρ) (L0 : St → Option ρ) (a0 : Nat) (a1 : Nat) (g2 : Nat) (g3 : Nat → Int) :
    xcode (E36 N) ents laws_eqInt64S_sn.kp 1 N (cL (cK (cB (cA (cB (cB laws_eqInt64S_sn.bd)))))) 0 (laws_eqInt64S_sn.st0 a0 a1 g2 g3) (roundK laws_eqInt64S_sn.kp 1 0 L0 (laws_eqInt64S_sn.k0 N K g2 g3)) = (laws_eqInt64S_sn.b0 N (fun d0 => K (.bool (d0)) [⟨false, .ints .i64 g2 g3⟩]) (L0 (laws_eqInt64S_sn.st0 a0 a1 g2 g3)) ((laws_eqInt64S_sn.k0 N K g2 g3) (.exit 0) (laws_eqInt64S_sn.sx0_0 g2 g3)) a0) := by
  have h := laws_eqInt64S_sn.b0_gen N K L0 (laws_eqInt64S_sn.k0 N K g2 g3) a0 a1 g2 g3
  rw [laws_eqInt64S_sn.k0_mix] at h
  exact h

theorem laws_eqInt64S_sn.a0_0_eq {ρ : Type} (N : Nat) (K : AV → Heap → Option ρ) (g2 : Nat) (g3 : Nat → Int) :
    (laws_eqInt64S_sn.k0 N K g2 g3) (.exit 0) (laws_eqInt64S_sn.sx0_0 g2 g3) = (laws_eqInt64S_sn.a0_0 N (fun d0 => K (.bool (d0)) [⟨false, .ints .i64 g2 g3⟩])) := by kernel_rfl

theorem laws_eqInt64S_sn.l0_eq {ρ : Type} (N : Nat) (K : AV → Heap → Option ρ) (a0 : Nat) (a1 : Nat) (g2 : Nat) (g3 : Nat → Int) :
    ∀ (m : Nat), xloop (xcode (E36 N) ents laws_eqInt64S_sn.kp 1 N (cL (cK (cB (cA (cB (cB laws_eqInt64S_sn.bd)))))) 0) laws_eqInt64S_sn.kp 1 0 m (laws_eqInt64S_sn.st0 a0 a1 g2 g3) (laws_eqInt64S_sn.k0 N K g2 g3) = (laws_eqInt64S_sn.l0 N (fun d0 => K (.bool (d0)) [⟨false, .ints .i64 g2 g3⟩]) a0 ((laws_eqInt64S_sn.k0 N K g2 g3) (.exit 0) (laws_eqInt64S_sn.sx0_0 g2 g3)) m) := by
  intro m
  induction m with
  | zero => intros; rfl
  | succ m ih =>
    refine (laws_eqInt64S_sn.b0_eq N K (fun s => xloop (xcode (E36 N) ents laws_eqInt64S_sn.kp 1 N (cL (cK (cB (cA (cB (cB laws_eqInt64S_sn.bd)))))) 0) laws_eqInt64S_sn.kp 1 0 m s (laws_eqInt64S_sn.k0 N K g2 g3)) a0 a1 g2 g3).trans ?_
    simp only [ih]
    kernel_rfl

theorem laws_eqInt64S_sn.s_eq {ρ : Type} (N : Nat) (K : AV → Heap → Option ρ) (a0 : Nat) (a1 : Nat) (g2 : Nat) (g3 : Nat → Int) :
    xbody (E36 N) ents laws_eqInt64S_sn.kp N Go.Proofs.Try.f19 laws_eqInt64S_sn.bd [.slice 0 0 a0 (some a1) 1, .nils] [⟨false, .ints .i64 g2 g3⟩] K = (laws_eqInt64S_sn.s N (fun d0 => K (.bool (d0)) [⟨false, .ints .i64 g2 g3⟩]) (xloop (xcode (E36 N) ents laws_eqInt64S_sn.kp 1 N (cL (cK (cB (cA (cB (cB laws_eqInt64S_sn.bd)))))) 0) laws_eqInt64S_sn.kp 1 0 N (laws_eqInt64S_sn.st0 a0 a1 g2 g3) (laws_eqInt64S_sn.k0 N K g2 g3)) a0) := by kernel_rfl

theorem laws_eqInt64S_sn.eq {ρ : Type} (N : Nat) (K : AV → Heap → Option ρ) (a0 : Nat) (a1 : Nat) (g2 : Nat) (g3 : Nat → Int) :
    xbody (E36 N) ents laws_eqInt64S_sn.kp N Go.Proofs.Try.f19 laws_eqInt64S_sn.bd [.slice 0 0 a0 (some a1) 1, .nils] [⟨false, .ints .i64 g2 g3⟩] K = (laws_eqInt64S_sn N (fun d0 => K (.bool (d0)) [⟨false, .ints .i64 g2 g3⟩]) a0 a1 g2 g3) := by
  refine (laws_eqInt64S_sn.s_eq N K a0 a1 g2 g3).trans ?_
  simp only [laws_eqInt64S_sn.l0_eq, laws_eqInt64S_sn.a0_0_eq]
  kernel_rfl

noncomputable def laws_eqInt64S_ns.kp : Keeps := ⟨[(0, [0, 1, 5], 1)], [(0, [], 1)]⟩

noncomputable def laws_eqInt64S_ns.bd : Code := bodyOf Go.Proofs.Try.f19

noncomputable def laws_eqInt64S_ns.fin {ρ : Type} (N : Nat) (K : AV → Heap → Option ρ) (g2 : Nat) (g3 : Nat → Int) : XE → St → Option ρ := finK (E36 N) Go.Proofs.Try.f19 [⟨false, .ints .i64 g2 g3⟩] K

noncomputable def laws_eqInt64S_ns.k0 {ρ : Type} (N : Nat) (K : AV → Heap → Option ρ) (g2 : Nat) (g3 : Nat → Int) : XE → St → Option ρ := (blockK laws_eqInt64S_ns.kp 1 0 (seqK (xcode (E36 N) ents laws_eqInt64S_ns.kp 1 N (cB (cB (cB laws_eqInt64S_ns.bd))) 0) (laws_eqInt64S_ns.fin N K g2 g3)))

theorem laws_eqInt64S_ns.k0_mix {ρ : Type} (N : Nat) (K : AV → Heap → Option ρ) (g2 : Nat) (g3 : Nat → Int) : mixK (laws_eqInt64S_ns.fin N K g2 g3 .ret) (laws_eqInt64S_ns.k0 N K g2 g3) = (laws_eqInt64S_ns.k0 N K g2 g3) := by
  funext e s; cases e <;> rfl

noncomputable def laws_eqInt64S_ns.st0 (b0 : Nat) (b1 : Nat) (g2 : Nat) (g3 : Nat → Int) : St := ⟨sl 26 [(0, .nils), (1, .slice 0 0 b0 (some b1) 1), (5, .int .i64 0)], [⟨false, .ints .i64 g2 g3⟩]⟩

noncomputable def laws_eqInt64S_ns.sx0_0 (g2 : Nat) (g3 : Nat → Int) : St := ⟨sl 26 [], [⟨false, .ints .i64 g2 g3⟩]⟩

theorem laws_eqInt64S_ns.b0_gen {ρ : Type} (N : Nat) (K : AV → Heap → Option ρ) (L0 : St → Option ρ) (kv : XE → St → Option ρ) (b0 : Nat) (b1 : Nat) (g2 : Nat) (g3 : Nat → Int) :
    xcode (E36 N) ents laws_eqInt64S_ns.kp 1 N (cL (cK (cB (cA (cB (cB laws_eqInt64S_ns.bd)))))) 0 (laws_eqInt64S_ns.st0 b0 b1 g2 g3) (roundK laws_eqInt64S_ns.kp 1 0 L0 (mixK (laws_eqInt64S_ns.fin N K g2 g3 .ret) kv)) = (laws_eqInt64S_ns.b0 N (fun d0 => K (.bool (d0)) [⟨false, .ints .i64 g2 g3⟩]) (L0 (laws_eqInt64S_ns.st0 b0 b1 g2 g3)) (kv (.exit 0) (laws_eqInt64S_ns.sx0_0 g2 g3))) := by kernel_rfl

theorem laws_eqInt64S_ns.b0_eq {ρ : Type} (N : Nat) (K : AV → Heap → Option ρ) (L0 : St → Option ρ) (b0 : Nat) (b1 : Nat) (g2 : Nat) (g3 : Nat → Int) :
    xcode (E36 N) ents laws_eqInt64S_ns.kp 1 N (cL (cK (cB (cA (cB (cB laws_eqInt64S_ns.bd)))))) 0 (laws_eqInt64S_ns.st0 b0 b1 g2 g3) (roundK laws_eqInt64S_ns.kp 1 0 L0 (laws_eqInt64S_ns.k0 N K g2 g3)) = (laws_eqInt64S_ns.b0 N (fun d0 => K (.bool (d0)) [⟨false, .ints .i64 g2 g3⟩]) (L0 (laws_eqInt64S_ns.st0 b0 b1 g2 g3)) ((laws_eqInt64S_ns.k0 N K g2 g3) (.exit 0) (laws_eqInt64S_ns.sx0_0 g2 g3))) := by
  have h := laws_eqInt64S_ns.b0_gen N K L0 (laws_eqInt64S_ns.k0 N K g2 g3) b0 b1 g2 g3
  rw [laws_eqInt64S_ns.k0_mix] at h
  exact h

theorem laws_eqInt64S_ns.a0_0_eq {ρ : Type} (N : Nat) (K : AV → Heap → Option ρ) (g2 : Nat) (g3 : Nat → Int) :
    (laws_eqInt64S_ns.k0 N K g2 g3) (.exit 0) (laws_eqInt64S_ns.sx0_0 g2 g3) = (laws_eqInt64S_ns.a0_0 N (fun d0 => K (.bool (d0)) [⟨false, .ints .i64 g2 g3⟩])) := by kernel_rfl

theorem laws_eqInt64S_ns.l0_eq {ρ : Type} (N : Nat) (K : AV → Heap → Option ρ) (b0 : Nat) (b1 : Nat) (g2 : Nat) (g3 : Nat → Int) :
    ∀ (m : Nat), xloop (xcode (E36 N) ents laws_eqInt64S_ns.kp 1 N (cL (cK (cB (cA (cB (cB laws_eqInt64S_ns.bd)))))) 0) laws_eqInt64S_ns.kp 1 0 m (laws_eqInt64S_ns.st0 b0 b1 g2 g3) (laws_eqInt64S_ns.k0 N K g2 g3) = (laws_eqInt64S_ns.l0 N (fun d0 => K (.bool (d0)) [⟨false, .ints .i64 g2 g3⟩]) ((laws_eqInt64S_ns.k0 N K g2 g3) (.exit 0) (laws_eqInt64S_ns.sx0_0 g2 g3)) m) := by
  intro m
  induction m with
  | zero => intros; rfl
  | succ m ih =>
    refine (laws_eqInt64S_ns.b0_eq N K (fun s => xloop (xcode (E36 N) ents laws_eqInt64S_ns.kp 1 N (cL (cK (cB (cA (cB (cB laws_eqInt64S_ns.bd)))))) 0) laws_eqInt64S_ns.kp 1 0 m s (laws_eqInt64S_ns.k0 N K g2 g3)) b0 b1 g2 g3).trans ?_
    simp only [ih]
    kernel_rfl

theorem laws_eqInt64S_ns.s_eq {ρ : Type} (N : Nat) (K : AV → Heap → Option ρ) (b0 : Nat) (b1 : Nat) (g2 : Nat) (g3 : Nat → Int) :
    xbody (E36 N) ents laws_eqInt64S_ns.kp N Go.Proofs.Try.f19 laws_eqInt64S_ns.bd [.nils, .slice 0 0 b0 (some b1) 1] [⟨false, .ints .i64 g2 g3⟩] K = (laws_eqInt64S_ns.s N (fun d0 => K (.bool (d0)) [⟨false, .ints .i64 g2 g3⟩]) (xloop (xcode (E36 N) ents laws_eqInt64S_ns.kp 1 N (cL (cK (cB (cA (cB (cB laws_eqInt64S_ns.bd)))))) 0) laws_eqInt64S_ns.kp 1 0 N (laws_eqInt64S_ns.st0 b0 b1 g2 g3) (laws_eqInt64S_ns.k0 N K g2 g3)) b0) := by kernel_rfl

theorem laws_eqInt64S_ns.eq {ρ : Type} (N : Nat) (K : AV → Heap → Option ρ) (b0 : Nat) (b1 : Nat) (g2 : Nat) (g3 : Nat → Int) :
    xbody (E36 N) ents laws_eqInt64S_ns.kp N Go.Proofs.Try.f19 laws_eqInt64S_ns.bd [.nils, .slice 0 0 b0 (some b1) 1] [⟨false, .ints .i64 g2 g3⟩] K = (laws_eqInt64S_ns N (fun d0 => K (.bool (d0)) [⟨false, .ints .i64 g2 g3⟩]) b0 b1 g2 g3) := by
  refine (laws_eqInt64S_ns.s_eq N K b0 b1 g2 g3).trans ?_
  simp only [laws_eqInt64S_ns.l0_eq, laws_eqInt64S_ns.a0_0_eq]
  kernel_rfl

noncomputable def laws_eqInt64S_ss.kp : Keeps := ⟨[(0, [0, 1, 5], 2)], [(0, [], 2)]⟩

noncomputable def laws_eqInt64S_ss.bd : Code := bodyOf Go.Proofs.Try.f19

noncomputable def laws_eqInt64S_ss.fin {ρ : Type} (N : Nat) (K : AV → Heap → Option ρ) (g4 : Nat) (g5 : Nat → Int) (g6 : Nat) (g7 : Nat → Int) : XE → St → Option ρ := finK (E36 N) Go.Proofs.Try.f19 [⟨false, .ints .i64 g4 g5⟩, ⟨false, .ints .i64 g6 g7⟩] K

noncomputable def laws_eqInt64S_ss.k0 {ρ : Type} (N : Nat) (K : AV → Heap → Option ρ) (g4 : Nat) (g5 : Nat → Int) (g6 : Nat) (g7 : Nat → Int) : XE → St → Option ρ := (blockK laws_eqInt64S_ss.kp 2 0 (seqK (xcode (E36 N) ents laws_eqInt64S_ss.kp 2 N (cB (cB (cB laws_eqInt64S_ss.bd))) 0) (laws_eqInt64S_ss.fin N K g4 g5 g6 g7)))

theorem laws_eqInt64S_ss.k0_mix {ρ : Type} (N : Nat) (K : AV → Heap → Option ρ) (g4 : Nat) (g5 : Nat → Int) (g6 : Nat) (g7 : Nat → Int) : mixK (laws_eqInt64S_ss.fin N K g4 g5 g6 g7 .ret) (laws_eqInt64S_ss.k0 N K g4 g5 g6 g7) = (laws_eqInt64S_ss.k0 N K g4 g5 g6 g7) := by
  funext e s; cases e <;> rfl

noncomputable def laws_eqInt64S_ss.st0 (a0 : Nat) (a1 : Nat) (b2 : Nat) (b3 : Nat) (g4 : Nat) (g5 : Nat → Int) (g6 : Nat) (g7 : Nat → Int) (i8 : Int) : St := ⟨sl 26 [(0, .slice 0 0 a0 (some a1) 1), (1, .slice 1 0 b2 (some b3) 1), (5, .int .i64 (i8))], [⟨false, .ints .i64 g4 g5⟩, ⟨false, .ints .i64 g6 g7⟩]⟩

noncomputable def laws_eqInt64S_ss.sx0_0 (g4 : Nat) (g5 : Nat → Int) (g6 : Nat) (g7 : Nat → Int) : St := ⟨sl 26 [], [⟨false, .ints .i64 g4 g5⟩, ⟨false, .ints .i64 g6 g7⟩]⟩

theorem laws_eqInt64S_ss.b0_gen {ρ : Type} (N : Nat) (K : AV → Heap → Option ρ) (L0 : St → Option ρ) (kv : XE → St → Option ρ) (a0 : Nat) (a1 : Nat) (b2 : Nat) (b3 : Nat) (g4 : Nat) (g5 : Nat → Int) (g6 : Nat) (g7 : Nat → Int) (i8 : Int) :
    xcode (E36 N) ents laws_eqInt64S_ss.kp 2 N (cL (cK (cB (cA (cB (cB laws_eqInt64S_ss.bd)))))) 0 (laws_eqInt64S_ss.st0 a0 a1 b2 b3 g4 g5 g6 g7 i8) (roundK laws_eqInt64S_ss.kp 2 0 L0 (mixK (laws_eqInt64S_ss.fin N K g4 g5 g6 g7 .ret) kv)) = (laws_eqInt64S_ss.b0 N (fun d0 => K (.bool (d0)) [⟨false, .ints .i64 g4 g5⟩, ⟨false, .ints .i64 g6 g7⟩]) (fun i8 => L0 (laws_eqInt64S_ss.st0 a0 a1 b2 b3 g4 g5 g6 g7 i8)) (kv (.exit 0) (laws_eqInt64S_ss.sx0_0 g4 g5 g6 g7)) a0 b2 g5 g7 i8) := by kernel_rfl

theorem laws_eqInt64S_ss.b0_eq {ρ : Type} (N : Nat) (K : AV → Heap → Option ρ) (L0 : St → Option ρ) (a0 : Nat) (a1 : Nat) (b2 : Nat) (b3 : Nat) (g4 : Nat) (g5 : Nat → Int) (g6 : Nat) (g7 : Nat → Int) (i8 : Int) :
    xcode (E36 N) ents laws_eqInt64S_ss.kp 2 N (cL (cK (cB (cA (cB (cB laws_eqInt64S_ss.bd)))))) 0 (laws_eqInt64S_ss.st0 a0 a1 b2 b3 g4 g5 g6 g7 i8) (roundK laws_eqInt64S_ss.kp 2 0 L0 (laws_eqInt64S_ss.k0 N K g4 g5 g6 g7)) = (laws_eqInt64S_ss.b0 N (fun d0 => K (.bool (d0)) [⟨false, .ints .i64 g4 g5⟩, ⟨false, .ints .i64 g6 g7⟩]) (fun i8 => L0 (laws_eqInt64S_ss.st0 a0 a1 b2 b3 g4 g5 g6 g7 i8)) ((laws_eqInt64S_ss.k0 N K g4 g5 g6 g7) (.exit 0) (laws_eqInt64S_ss.sx0_0 g4 g5 g6 g7)) a0 b2 g5 g7 i8) := by
  have h := laws_eqInt64S_ss.b0_gen N K L0 (laws_eqInt64S_ss.k0 N K g4 g5 g6 g7) a0 a1 b2 b3 g4 g5 g6 g7 i8
  rw [laws_eqInt64S_ss.k0_mix] at h
  exact h

theorem laws_eqInt64S_ss.a0_0_eq {ρ : Type} (N : Nat) (K : AV → Heap → Option ρ) (g4 : Nat) (g5 : Nat → Int) (g6 : Nat) (g7 : Nat → Int) :
    (laws_eqInt64S_ss.k0 N K g4 g5 g6 g7) (.exit 0) (laws_eqInt64S_ss.sx0_0 g4 g5 g6 g7) = (laws_eqInt64S_ss.a0_0 N (fun d0 => K (.bool (d0)) [⟨false, .ints .i64 g4 g5⟩, ⟨false, .ints .i64 g6 g7⟩])) := by kernel_rfl

theorem laws_eqInt64S_ss.l0_eq {ρ : Type} (N : Nat) (K : AV → Heap → Option ρ) (a0 : Nat) (a1 : Nat) (b2 : Nat) (b3 : Nat) (g4 : Nat) (g5 : Nat → Int) (g6 : Nat) (g7 : Nat → Int) :
    ∀ (m : Nat) (i8 : Int), xloop (xcode (E36 N) ents laws_eqInt64S_ss.kp 2 N (cL (cK (cB (cA (cB (cB laws_eqInt64S_ss.bd)))))) 0) laws_eqInt64S_ss.kp 2 0 m (laws_eqInt64S_ss.st0 a0 a1 b2 b3 g4 g5 g6 g7 i8) (laws_eqInt64S_ss.k0 N K g4 g5 g6 g7) = (laws_eqInt64S_ss.l0 N (fun d0 => K (.bool (d0)) [⟨false, .ints .i64 g4 g5⟩, ⟨false, .ints .i64 g6 g7⟩]) a0 b2 g5 g7 ((laws_eqInt64S_ss.k0 N K g4 g5 g6 g7) (.exit 0) (laws_eqInt64S_ss.sx0_0 g4 g5 g6 g7)) m i8) := by
  intro m
  induction m with
  | zero => intros; rfl
  | succ m ih =>
    intro i8
    refine (laws_eqInt64S_ss.b0_eq N K (fun s => xloop (xcode (E36 N) ents laws_eqInt64S_ss.kp 2 N (cL (cK (cB (cA (cB (cB laws_eqInt64S_ss.bd)))))) 0) laws_eqInt64S_ss.kp 2 0 m s (laws_eqInt64S_ss.k0 N K g4 g5 g6 g7)) a0 a1 b2 b3 g4 g5 g6 g7 i8).trans ?_
    simp only [ih]
    kernel_rfl

theorem laws_eqInt64S_ss.s_eq {ρ : Type} (N : Nat) (K : AV → Heap → Option ρ) (a0 : Nat) (a1 : Nat) (b2 : Nat) (b3 : Nat) (g4 : Nat) (g5 : Nat → Int) (g6 : Nat) (g7 : Nat → Int) :
    xbody (E36 N) ents laws_eqInt64S_ss.kp N Go.Proofs.Try.f19 laws_eqInt64S_ss.bd [.slice 0 0 a0 (some a1) 1, .slice 1 0 b2 (some b3) 1] [⟨false, .ints .i64 g4 g5⟩, ⟨false, .ints .i64 g6 g7⟩] K = (laws_eqInt64S_ss.s N (fun d0 => K (.bool (d0)) [⟨false, .ints .i64 g4 g5⟩, ⟨false, .ints .i64 g6 g7⟩]) (fun i8 => xloop (xcode (E36 N) ents laws_eqInt64S_ss.kp 2 N (cL (cK (cB (cA (cB (cB laws_eqInt64S_ss.bd)))))) 0) laws_eqInt64S_ss.kp 2 0 N (laws_eqInt64S_ss.st0 a0 a1 b2 b3 g4 g5 g6 g7 i8) (laws_eqInt64S_ss.k0 N K g4 g5 g6 g7)) a0 b2) := by kernel_rfl

theorem laws_eqInt64S_ss.eq {ρ : Type} (N : Nat) (K : AV → Heap → Option ρ) (a0 : Nat) (a1 : Nat) (b2 : Nat) (b3 : Nat) (g4 : Nat) (g5 : Nat → Int) (g6 : Nat) (g7 : Nat → Int) :
    xbody (E36 N) ents laws_eqInt64S_ss.kp N Go.Proofs.Try.f19 laws_eqInt64S_ss.bd [.slice 0 0 a0 (some a1) 1, .slice 1 0 b2 (some b3) 1] [⟨false, .ints .i64 g4 g5⟩, ⟨false, .ints .i64 g6 g7⟩] K = (laws_eqInt64S_ss N (fun d0 => K (.bool (d0)) [⟨false, .ints .i64 g4 g5⟩, ⟨false, .ints .i64 g6 g7⟩]) a0 a1 b2 b3 g4 g5 g6 g7) := by
  refine (laws_eqInt64S_ss.s_eq N K a0 a1 b2 b3 g4 g5 g6 g7).trans ?_
  simp only [laws_eqInt64S_ss.l0_eq, laws_eqInt64S_ss.a0_0_eq]
  kernel_rfl

noncomputable def laws_eqInt64S_nn.en (N : Nat) (ρ : Type) : List AV → Heap → (AV → Heap → Option ρ) → Option ρ
  | [.nils, .nils], [], K => (laws_eqInt64S_nn N (fun d0 => K (.bool (d0)) []))
  | [.slice 0 0 a0 (some a1) 1, .nils], [⟨false, .ints .i64 g2 g3⟩], K => (laws_eqInt64S_sn N (fun d0 => K (.bool (d0)) [⟨false, .ints .i64 g2 g3⟩]) a0 a1 g2 g3)
  | [.nils, .slice 0 0 b0 (some b1) 1], [⟨false, .ints .i64 g2 g3⟩], K => (laws_eqInt64S_ns N (fun d0 => K (.bool (d0)) [⟨false, .ints .i64 g2 g3⟩]) b0 b1 g2 g3)
  | [.slice 0 0 a0 (some a1) 1, .slice 1 0 b2 (some b3) 1], [⟨false, .ints .i64 g4 g5⟩, ⟨false, .ints .i64 g6 g7⟩], K => (laws_eqInt64S_ss N (fun d0 => K (.bool (d0)) [⟨false, .ints .i64 g4 g5⟩, ⟨false, .ints .i64 g6 g7⟩]) a0 a1 b2 b3 g4 g5 g6 g7)
  | _, _, _ => none

theorem laws_eqInt64S_nn.en_ok (N : Nat) (hE : EnvOk (E36 N) ents) (ρ : Type) (args : List AV) (sh : Heap) (K : AV → Heap → Option ρ) (r : ρ) (h : laws_eqInt64S_nn.en N ρ args sh K = some r) : ∃ v sh', K v sh' = some r ∧ FnOk (E36 N).P 19 args sh v sh' := by
  unfold laws_eqInt64S_nn.en at h
  split at h
  · exact fn_ok hE (kp := laws_eqInt64S_nn.kp) (N := N) Go.Proofs.Try.func19 (c := laws_eqInt64S_nn.bd) (by kernel_rfl) ((laws_eqInt64S_nn.eq N _ ).trans h)
  · exact fn_ok hE (kp := laws_eqInt64S_sn.kp) (N := N) Go.Proofs.Try.func19 (c := laws_eqInt64S_sn.bd) (by kernel_rfl) ((laws_eqInt64S_sn.eq N _ _ _ _ _).trans h)
  · exact fn_ok hE (kp := laws_eqInt64S_ns.kp) (N := N) Go.Proofs.Try.func19 (c := laws_eqInt64S_ns.bd) (by kernel_rfl) ((laws_eqInt64S_ns.eq N _ _ _ _ _).trans h)
  · exact fn_ok hE (kp := laws_eqInt64S_ss.kp) (N := N) Go.Proofs.Try.func19 (c := laws_eqInt64S_ss.bd) (by kernel_rfl) ((laws_eqInt64S_ss.eq N _ _ _ _ _ _ _ _ _).trans h)
  · cases h

noncomputable def E37 (N : Nat) : Env := (E36 N).add 19 (laws_eqInt64S_nn.en N)

theorem E37_ok (N : Nat) : EnvOk (E37 N) ents := Env.add_ok (E36_ok N) (laws_eqInt64S_nn.en_ok N (E36_ok N))

noncomputable def laws_markInt64S_n.kp : Keeps := ⟨[(0, [0, 1, 5], 0)], [(0, [1], 0)]⟩

noncomputable def laws_markInt64S_n.bd : Code := bodyOf Go.Proofs.Try.f20

noncomputable def laws_markInt64S_n.fin {ρ : Type} (N : Nat) (K : AV → Heap → Option ρ) : XE → St → Option ρ := finK (E37 N) Go.Proofs.Try.f20 [] K

noncomputable def laws_markInt64S_n.k0 {ρ : Type} (N : Nat) (K : AV → Heap → Option ρ) : XE → St → Option ρ := (blockK laws_markInt64S_n.kp 0 0 (seqK (xcode (E37 N) ents laws_markInt64S_n.kp 0 N (cB (cB laws_markInt64S_n.bd)) 0) (laws_markInt64S_n.fin N K)))

theorem laws_markInt64S_n.k0_mix {ρ : Type} (N : Nat) (K : AV → Heap → Option ρ) : mixK (laws_markInt64S_n.fin N K .ret) (laws_markInt64S_n.k0 N K) = (laws_markInt64S_n.k0 N K) := by
  funext e s; cases e <;> rfl

noncomputable def laws_markInt64S_n.st0 (k0 : Int) : St := ⟨sl 19 [(0, .nils), (1, .int .i64 (k0)), (5, .int .i64 0)], []⟩

noncomputable def laws_markInt64S_n.sx0_0 (k0 : Int) : St := ⟨sl 19 [(1, .int .i64 (k0))], []⟩

theorem laws_markInt64S_n.b0_gen {ρ : Type} (N : Nat) (K : AV → Heap → Option ρ) (L0 : St → Option ρ) (kv : XE → St → Option ρ) (k0 : Int) :
    xcode (E37 N) ents laws_markInt64S_n.kp 0 N (cL (cK (cB (cA (cB laws_markInt64S_n.bd))))) 0 (laws_markInt64S_n.st0 k0) (roundK laws_markInt64S_n.kp 0 0 L0 (mixK (laws_markInt64S_n.fin N K .ret) kv)) = (laws_markInt64S_n.b0 N (fun d0 => K (.int .i64 (d0)) []) (L0 (laws_markInt64S_n.st0 k0)) (kv (.exit 0) (laws_markInt64S_n.sx0_0 k0))) := by kernel_rfl

theorem laws_markInt64S_n.b0_eq {ρ : Type} (N : Nat) (K : AV → Heap → Option ρ) (L0 : St → Option ρ) (k0 : Int) :
    xcode (E37 N) ents laws_markInt64S_n.kp 0 N (cL (cK (cB (cA (cB laws_markInt64S_n.bd))))) 0 (laws_markInt64S_n.st0 k0) (roundK laws_markInt64S_n.kp 0 0 L0 (laws_markInt64S_n.k0 N K)) = (laws_markInt64S_n.b0 N (fun d0 => K (.int .i64 (d0)) []) (L0 (laws_markInt64S_n.st0 k0)) ((laws_markInt64S_n.k0 N K) (.exit 0) (laws_markInt64S_n.sx0_0 k0))) := by
  have h := laws_markInt64S_n.b0_gen N K L0 (laws_markInt64S_n.k0 N K) k0
  rw [laws_markInt64S_n.k0_mix] at h
  exact h

theorem laws_markInt64S_n.a0_0_eq {ρ : Type} (N : Nat) (K : AV → Heap → Option ρ) (k0 : Int) :
    (laws_markInt64S_n.k0 N K) (.exit 0) (laws_markInt64S_n.sx0_0 k0) = (laws_markInt64S_n.a0_0 N (fun d0 => K (.int .i64 (d0)) []) k0) := by kernel_rfl

theorem laws_markInt64S_n.l0_eq {ρ : Type} (N : Nat) (K : AV → Heap → Option ρ) (k0 : Int) :
    ∀ (m : Nat), xloop (xcode (E37 N) ents laws_markInt64S_n.kp 0 N (cL (cK (cB (cA (cB laws_markInt64S_n.bd))))) 0) laws_markInt64S_n.kp 0 0 m (laws_markInt64S_n.st0 k0) (laws_markInt64S_n.k0 N K) = (laws_markInt64S_n.l0 N (fun d0 => K (.int .i64 (d0)) []) ((laws_markInt64S_n.k0 N K) (.exit 0) (laws_markInt64S_n.sx0_0 k0)) m) := by
  intro m
  induction m with
  | zero => intros; rfl
  | succ m ih =>
    refine (laws_markInt64S_n.b0_eq N K (fun s => xloop (xcode (E37 N) ents laws_markInt64S_n.kp 0 N (cL (cK (cB (cA (cB laws_markInt64S_n.bd))))) 0) laws_markInt64S_n.kp 0 0 m s (laws_markInt64S_n.k0 N K)) k0).trans ?_
    simp only [ih]
    kernel_rfl

theorem laws_markInt64S_n.s_eq {ρ : Type} (N : Nat) (K : AV → Heap → Option ρ) (k0 : Int) :
    xbody (E37 N) ents laws_markInt64S_n.kp N Go.Proofs.Try.f20 laws_markInt64S_n.bd [.nils, .int .i64 (k0)] [] K = (laws_markInt64S_n.s N (fun d0 => K (.int .i64 (d0)) []) (xloop (xcode (E37 N) ents laws_markInt64S_n.kp 0 N (cL (cK (cB (cA (cB laws_markInt64S_n.bd))))) 0) laws_markInt64S_n.kp 0 0 N (laws_markInt64S_n.st0 k0) (laws_markInt64S_n.k0 N K))) := by kernel_rfl

theorem laws_markInt64S_n.eq {ρ : Type} (N : Nat) (K : AV → Heap → Option ρ) (k0 : Int) :
    xbody (E37 N) ents laws_markInt64S_n.kp N Go.Proofs.Try.f20 laws_markInt64S_n.bd [.nils, .int .i64 (k0)] [] K = (laws_markInt64S_n N (fun d0 => K (.int .i64 (d0)) []) k0) := by
  refine (laws_markInt64S_n.s_eq N K k0).trans ?_
  simp only [laws_markInt64S_n.l0_eq, laws_markInt64S_n.a0_0_eq]
  kernel_rfl

noncomputable def laws_markInt64S_s.kp : Keeps := ⟨[(0, [0, 1, 5], 1)], [(0, [1], 1)]⟩

noncomputable def laws_markInt64S_s.bd : Code := bodyOf Go.Proofs.Try.f20

noncomputable def laws_markInt64S_s.fin {ρ : Type} (N : Nat) (K : AV → Heap → Option ρ) (g3 : Nat) (g4 : Nat → Int) : XE → St → Option ρ := finK (E37 N) Go.Proofs.Try.f20 [⟨true, .ints .i64 g3 g4⟩] K

noncomputable def laws_markInt64S_s.k0 {ρ : Type} (N : Nat) (K : AV → Heap → Option ρ) (g3 : Nat) (g4 : Nat → Int) : XE → St → Option ρ := (blockK laws_markInt64S_s.kp 1 0 (seqK (xcode (E37 N) ents laws_markInt64S_s.kp 1 N (cB (cB laws_markInt64S_s.bd)) 0) (laws_markInt64S_s.fin N K g3 g4)))

theorem laws_markInt64S_s.k0_mix {ρ : Type} (N : Nat) (K : AV → Heap → Option ρ) (g3 : Nat) (g4 : Nat → Int) : mixK (laws_markInt64S_s.fin N K g3 g4 .ret) (laws_markInt64S_s.k0 N K g3 g4) = (laws_markInt64S_s.k0 N K g3 g4) := by
  funext e s; cases e <;> rfl

noncomputable def laws_markInt64S_s.st0 (a0 : Nat) (a1 : Nat) (g3 : Nat) (k5 : Int) (i6 : Int) (g7 : Nat → Int) : St := ⟨sl 19 [(0, .slice 0 0 a0 (some a1) 1), (1, .int .i64 (k5)), (5, .int .i64 (i6))], [⟨true, .ints .i64 g3 g7⟩]⟩

noncomputable def laws_markInt64S_s.sx0_0 (g3 : Nat) (o8 : Int) (o9 : Nat → Int) : St := ⟨sl 19 [(1, .int .i64 (o8))], [⟨true, .ints .i64 g3 o9⟩]⟩

theorem laws_markInt64S_s.b0_gen {ρ : Type} (N : Nat) (K : AV → Heap → Option ρ) (L0 : St → Option ρ) (kv : XE → St → Option ρ) (a0 : Nat) (a1 : Nat) (g3 : Nat) (g4 : Nat → Int) (k5 : Int) (i6 : Int) (g7 : Nat → Int) :
    xcode (E37 N) ents laws_markInt64S_s.kp 1 N (cL (cK (cB (cA (cB laws_markInt64S_s.bd))))) 0 (laws_markInt64S_s.st0 a0 a1 g3 k5 i6 g7) (roundK laws_markInt64S_s.kp 1 0 L0 (mixK (laws_markInt64S_s.fin N K g3 g4 .ret) kv)) = (laws_markInt64S_s.b0 N (fun d0 d1 => K (.int .i64 (d0)) [⟨true, .ints .i64 g3 d1⟩]) (fun k5 i6 g7 => L0 (laws_markInt64S_s.st0 a0 a1 g3 k5 i6 g7)) (fun o8 o9 => kv (.exit 0) (laws_markInt64S_s.sx0_0 g3 o8 o9)) a0 k5 i6 g7) := by kernel_rfl

theorem laws_markInt64S_s.b0_eq {ρ : Type} (N : Nat) (K : AV → Heap → Option ρ) (L0 : St → Option ρ) (a0 : Nat) (a1 : Nat) (g3 : Nat) (g4 : Nat → Int) (k5 : Int) (i6 : Int) (g7 : Nat → Int) :
    xcode (E37 N) ents laws_markInt64S_s.kp 1 N (cL (cK (cB (cA (cB laws_markInt64S_s.bd))))) 0 (laws_markInt64S_s.st0 a0 a1 g3 k5 i6 g7) (roundK laws_markInt64S_s.kp 1 0 L0 (laws_markInt64S_s.k0 N K g3 g4)) = (laws_markInt64S_s.b0 N (fun d0 d1 => K (.int .i64 (d0)) [⟨true, .ints .i64 g3 d1⟩]) (fun k5 i6 g7 => L0 (laws_markInt64S_s.st0 a0 a1 g3 k5 i6 g7)) (fun o8 o9 => (laws_markInt64S_s.k0 N K g3 g4) (.exit 0) (laws_markInt64S_s.sx0_0 g3 o8 o9)) a0 k5 i6 g7) := by
  have h := laws_markInt64S_s.b0_gen N K L0 (laws_markInt64S_s.k0 N K g3 g4) a0 a1 g3 g4 k5 i6 g7
  rw [laws_markInt64S_s.k0_mix] at h
  exact h

theorem laws_markInt64S_s.a0_0_eq {ρ : Type} (N : Nat) (K : AV → Heap → Option ρ) (g3 : Nat) (g4 : Nat → Int) (o8 : Int) (o9 : Nat → Int) :
    (laws_markInt64S_s.k0 N K g3 g4) (.exit 0) (laws_markInt64S_s.sx0_0 g3 o8 o9) = (laws_markInt64S_s.a0_0 N (fun d0 d1 => K (.int .i64 (d0)) [⟨true, .ints .i64 g3 d1⟩]) o8 o9) := by kernel_rfl

theorem laws_markInt64S_s.l0_eq {ρ : Type} (N : Nat) (K : AV → Heap → Option ρ) (a0 : Nat) (a1 : Nat) (g3 : Nat) (g4 : Nat → Int) :
    ∀ (m : Nat) (k5 : Int) (i6 : Int) (g7 : Nat → Int), xloop (xcode (E37 N) ents laws_markInt64S_s.kp 1 N (cL (cK (cB (cA (cB laws_markInt64S_s.bd))))) 0) laws_markInt64S_s.kp 1 0 m (laws_markInt64S_s.st0 a0 a1 g3 k5 i6 g7) (laws_markInt64S_s.k0 N K g3 g4) = (laws_markInt64S_s.l0 N (fun d0 d1 => K (.int .i64 (d0)) [⟨true, .ints .i64 g3 d1⟩]) a0 (fun o8 o9 => (laws_markInt64S_s.k0 N K g3 g4) (.exit 0) (laws_markInt64S_s.sx0_0 g3 o8 o9)) m k5 i6 g7) := by
  intro m
  induction m with
  | zero => intros; rfl
  | succ m ih =>
    intro k5 i6 g7
    refine (laws_markInt64S_s.b0_eq N K (fun s => xloop (xcode (E37 N) ents laws_markInt64S_s.kp 1 N (cL (cK (cB (cA (cB laws_markInt64S_s.bd))))) 0) laws_markInt64S_s.kp 1 0 m s (laws_markInt64S_s.k0 N K g3 g4)) a0 a1 g3 g4 k5 i6 g7).trans ?_
    simp only [ih]
    kernel_rfl

theorem laws_markInt64S_s.s_eq {ρ : Type} (N : Nat) (K : AV → Heap → Option ρ) (a0 : Nat) (a1 : Nat) (k2 : Int) (g3 : Nat) (g4 : Nat → Int) :
    xbody (E37 N) ents laws_markInt64S_s.kp N Go.Proofs.Try.f20 laws_markInt64S_s.bd [.slice 0 0 a0 (some a1) 1, .int .i64 (k2)] [⟨true, .ints .i64 g3 g4⟩] K = (laws_markInt64S_s.s N (fun d0 d1 => K (.int .i64 (d0)) [⟨true, .ints .i64 g3 d1⟩]) (fun k5 i6 g7 => xloop (xcode (E37 N) ents laws_markInt64S_s.kp 1 N (cL (cK (cB (cA (cB laws_markInt64S_s.bd))))) 0) laws_markInt64S_s.kp 1 0 N (laws_markInt64S_s.st0 a0 a1 g3 k5 i6 g7) (laws_markInt64S_s.k0 N K g3 g4)) k2 g4) := by kernel_rfl

theorem laws_markInt64S_s.eq {ρ : Type} (N : Nat) (K : AV → Heap → Option ρ) (a0 : Nat) (a1 : Nat) (k2 : Int) (g3 : Nat) (g4 : Nat → Int) :
    xbody (E37 N) ents laws_markInt64S_s.kp N Go.Proofs.Try.f20 laws_markInt64S_s.bd [.slice 0 0 a0 (some a1) 1, .int .i64 (k2)] [⟨true, .ints .i64 g3 g4⟩] K = (laws_markInt64S_s N (fun d0 d1 => K (.int .i64 (d0)) [⟨true, .ints .i64 g3 d1⟩]) a0 a1 k2 g3 g4) := by
  refine (laws_markInt64S_s.s_eq N K a0 a1 k2 g3 g4).trans ?_
  simp only [laws_markInt64S_s.l0_eq, laws_markInt64S_s.a0_0_eq]
  kernel_rfl

noncomputable def laws_markInt64S_n.en (N : Nat) (ρ : Type) : List AV → Heap → (AV → Heap → Option ρ) → Option ρ
  | [.nils, .int .i64 (k0)], [], K => (laws_markInt64S_n N (fun d0 => K (.int .i64 (d0)) []) k0)
  | [.slice 0 0 a0 (some a1) 1, .int .i64 (k2)], [⟨true, .ints .i64 g3 g4⟩], K => (laws_markInt64S_s N (fun d0 d1 => K (.int .i64 (d0)) [⟨true, .ints .i64 g3 d1⟩]) a0 a1 k2 g3 g4)
  | _, _, _ => none

theorem laws_markInt64S_n.en_ok (N : Nat) (hE : EnvOk (E37 N) ents) (ρ : Type) (args : List AV) (sh : Heap) (K : AV → Heap → Option ρ) (r : ρ) (h : laws_markInt64S_n.en N ρ args sh K = some r) : ∃ v sh', K v sh' = some r ∧ FnOk (E37 N).P 20 args sh v sh' := by
  unfold laws_markInt64S_n.en at h
  split at h
  · exact fn_ok hE (kp := laws_markInt64S_n.kp) (N := N) Go.Proofs.Try.func20 (c := laws_markInt64S_n.bd) (by kernel_rfl) ((laws_markInt64S_n.eq N _ _).trans h)
  · exact fn_ok hE (kp := laws_markInt64S_s.kp) (N := N) Go.Proofs.Try.func20 (c := laws_markInt64S_s.bd) (by kernel_rfl) ((laws_markInt64S_s.eq N _ _ _ _ _ _).trans h)
  · cases h

noncomputable def E38 (N : Nat) : Env := (E37 N).add 20 (laws_markInt64S_n.en N)

theorem E38_ok (N : Nat) : EnvOk (E38 N) ents := Env.add_ok (E37_ok N) (laws_markInt64S_n.en_ok N (E37_ok N))

noncomputable def laws_heldInt64S_n.kp : Keeps := ⟨[(0, [0, 1, 5], 0)], [(0, [1], 0)]⟩

noncomputable def laws_heldInt64S_n.bd : Code := bodyOf Go.Proofs.Try.f21

noncomputable def laws_heldInt64S_n.fin {ρ : Type} (N : Nat) (K : AV → Heap → Option ρ) : XE → St → Option ρ := finK (E38 N) Go.Proofs.Try.f21 [] K

noncomputable def laws_heldInt64S_n.k0 {ρ : Type} (N : Nat) (K : AV → Heap → Option ρ) : XE → St → Option ρ := (blockK laws_heldInt64S_n.kp 0 0 (seqK (xcode (E38 N) ents laws_heldInt64S_n.kp 0 N (cB (cB laws_heldInt64S_n.bd)) 0) (laws_heldInt64S_n.fin N K)))

theorem laws_heldInt64S_n.k0_mix {ρ : Type} (N : Nat) (K : AV → Heap → Option ρ) : mixK (laws_heldInt64S_n.fin N K .ret) (laws_heldInt64S_n.k0 N K) = (laws_heldInt64S_n.k0 N K) := by
  funext e s; cases e <;> rfl

noncomputable def laws_heldInt64S_n.st0 (k0 : Int) : St := ⟨sl 21 [(0, .nils), (1, .int .i64 (k0)), (5, .int .i64 0)], []⟩

noncomputable def laws_heldInt64S_n.sx0_0 (k0 : Int) : St := ⟨sl 21 [(1, .int .i64 (k0))], []⟩

theorem laws_heldInt64S_n.b0_gen {ρ : Type} (N : Nat) (K : AV → Heap → Option ρ) (L0 : St → Option ρ) (kv : XE → St → Option ρ) (k0 : Int) :
    xcode (E38 N) ents laws_heldInt64S_n.kp 0 N (cL (cK (cB (cA (cB laws_heldInt64S_n.bd))))) 0 (laws_heldInt64S_n.st0 k0) (roundK laws_heldInt64S_n.kp 0 0 L0 (mixK (laws_heldInt64S_n.fin N K .ret) kv)) = (laws_heldInt64S_n.b0 N (fun d0 => K (.int .i64 (d0)) []) (L0 (laws_heldInt64S_n.st0 k0)) (kv (.exit 0) (laws_heldInt64S_n.sx0_0 k0))) := by kernel_rfl

theorem laws_heldInt64S_n.b0_eq {ρ : Type} (N : Nat) (K : AV → Heap → Option ρ) (L0 : St → Option ρ) (k0 : Int) :
    xcode (E38 N) ents laws_heldInt64S_n.kp 0 N (cL (cK (cB (cA (cB laws_heldInt64S_n.bd))))) 0 (laws_heldInt64S_n.st0 k0) (roundK laws_heldInt64S_n.kp 0 0 L0 (laws_heldInt64S_n.k0 N K)) = (laws_heldInt64S_n.b0 N (fun d0 => K (.int .i64 (d0)) []) (L0 (laws_heldInt64S_n.st0 k0)) ((laws_heldInt64S_n.k0 N K) (.exit 0) (laws_heldInt64S_n.sx0_0 k0))) := by
  have h := laws_heldInt64S_n.b0_gen N K L0 (laws_heldInt64S_n.k0 N K) k0
  rw [laws_heldInt64S_n.k0_mix] at h
  exact h

theorem laws_heldInt64S_n.a0_0_eq {ρ : Type} (N : Nat) (K : AV → Heap → Option ρ) (k0 : Int) :
    (laws_heldInt64S_n.k0 N K) (.exit 0) (laws_heldInt64S_n.sx0_0 k0) = (laws_heldInt64S_n.a0_0 N (fun d0 => K (.int .i64 (d0)) []) k0) := by kernel_rfl

theorem laws_heldInt64S_n.l0_eq {ρ : Type} (N : Nat) (K : AV → Heap → Option ρ) (k0 : Int) :
    ∀ (m : Nat), xloop (xcode (E38 N) ents laws_heldInt64S_n.kp 0 N (cL (cK (cB (cA (cB laws_heldInt64S_n.bd))))) 0) laws_heldInt64S_n.kp 0 0 m (laws_heldInt64S_n.st0 k0) (laws_heldInt64S_n.k0 N K) = (laws_heldInt64S_n.l0 N (fun d0 => K (.int .i64 (d0)) []) ((laws_heldInt64S_n.k0 N K) (.exit 0) (laws_heldInt64S_n.sx0_0 k0)) m) := by
  intro m
  induction m with
  | zero => intros; rfl
  | succ m ih =>
    refine (laws_heldInt64S_n.b0_eq N K (fun s => xloop (xcode (E38 N) ents laws_heldInt64S_n.kp 0 N (cL (cK (cB (cA (cB laws_heldInt64S_n.bd))))) 0) laws_heldInt64S_n.kp 0 0 m s (laws_heldInt64S_n.k0 N K)) k0).trans ?_
    simp only [ih]
    kernel_rfl

theorem laws_heldInt64S_n.s_eq {ρ : Type} (N : Nat) (K : AV → Heap → Option ρ) (k0 : Int) :
    xbody (E38 N) ents laws_heldInt64S_n.kp N Go.Proofs.Try.f21 laws_heldInt64S_n.bd [.nils, .int .i64 (k0)] [] K = (laws_heldInt64S_n.s N (fun d0 => K (.int .i64 (d0)) []) (xloop (xcode (E38 N) ents laws_heldInt64S_n.kp 0 N (cL (cK (cB (cA (cB laws_heldInt64S_n.bd))))) 0) laws_heldInt64S_n.kp 0 0 N (laws_heldInt64S_n.st0 k0) (laws_heldInt64S_n.k0 N K))) := by kernel_rfl

theorem laws_heldInt64S_n.eq {ρ : Type} (N : Nat) (K : AV → Heap → Option ρ) (k0 : Int) :
    xbody (E38 N) ents laws_heldInt64S_n.kp N Go.Proofs.Try.f21 laws_heldInt64S_n.bd [.nils, .int .i64 (k0)] [] K = (laws_heldInt64S_n N (fun d0 => K (.int .i64 (d0)) []) k0) := by
  refine (laws_heldInt64S_n.s_eq N K k0).trans ?_
  simp only [laws_heldInt64S_n.l0_eq, laws_heldInt64S_n.a0_0_eq]
  kernel_rfl

noncomputable def laws_heldInt64S_s.kp : Keeps := ⟨[(0, [0, 1, 5], 1)], [(0, [1], 1)]⟩

noncomputable def laws_heldInt64S_s.bd : Code := bodyOf Go.Proofs.Try.f21

noncomputable def laws_heldInt64S_s.fin {ρ : Type} (N : Nat) (K : AV → Heap → Option ρ) (g3 : Nat) (g4 : Nat → Int) : XE → St → Option ρ := finK (E38 N) Go.Proofs.Try.f21 [⟨false, .ints .i64 g3 g4⟩] K

noncomputable def laws_heldInt64S_s.k0 {ρ : Type} (N : Nat) (K : AV → Heap → Option ρ) (g3 : Nat) (g4 : Nat → Int) : XE → St → Option ρ := (blockK laws_heldInt64S_s.kp 1 0 (seqK (xcode (E38 N) ents laws_heldInt64S_s.kp 1 N (cB (cB laws_heldInt64S_s.bd)) 0) (laws_heldInt64S_s.fin N K g3 g4)))

theorem laws_heldInt64S_s.k0_mix {ρ : Type} (N : Nat) (K : AV → Heap → Option ρ) (g3 : Nat) (g4 : Nat → Int) : mixK (laws_heldInt64S_s.fin N K g3 g4 .ret) (laws_heldInt64S_s.k0 N K g3 g4) = (laws_heldInt64S_s.k0 N K g3 g4) := by
  funext e s; cases e <;> rfl

noncomputable def laws_heldInt64S_s.st0 (a0 : Nat) (a1 : Nat) (g3 : Nat) (g4 : Nat → Int) (k5 : Int) (i6 : Int) : St := ⟨sl 21 [(0, .slice 0 0 a0 (some a1) 1), (1, .int .i64 (k5)), (5, .int .i64 (i6))], [⟨false, .ints .i64 g3 g4⟩]⟩

noncomputable def laws_heldInt64S_s.sx0_0 (g3 : Nat) (g4 : Nat → Int) (o7 : Int) : St := ⟨sl 21 [(1, .int .i64 (o7))], [⟨false, .ints .i64 g3 g4⟩]⟩

theorem laws_heldInt64S_s.b0_gen {ρ : Type} (N : Nat) (K : AV → Heap → Option ρ) (L0 : St → Option ρ) (kv : XE → St → Option ρ) (a0 : Nat) (a1 : Nat) (g3 : Nat) (g4 : Nat → Int) (k5 : Int) (i6 : Int) :
    xcode (E38 N) ents laws_heldInt64S_s.kp 1 N (cL (cK (cB (cA (cB laws_heldInt64S_s.bd))))) 0 (laws_heldInt64S_s.st0 a0 a1 g3 g4 k5 i6) (roundK laws_heldInt64S_s.kp 1 0 L0 (mixK (laws_heldInt64S_s.fin N K g3 g4 .ret) kv)) = (laws_heldInt64S_s.b0 N (fun d0 => K (.int .i64 (d0)) [⟨false, .ints .i64 g3 g4⟩]) (fun k5 i6 => L0 (laws_heldInt64S_s.st0 a0 a1 g3 g4 k5 i6)) (fun o7 => kv (.exit 0) (laws_heldInt64S_s.sx0_0 g3 g4 o7)) a0 g4 k5 i6) := by kernel_rfl

theorem laws_heldInt64S_s.b0_eq {ρ : Type} (N : Nat) (K : AV → Heap → Option ρ) (L0 : St → Option ρ) (a0 : Nat) (a1 : Nat) (g3 : Nat) (g4 : Nat → Int) (k5 : Int) (i6 : Int) :
    xcode (E38 N) ents laws_heldInt64S_s.kp 1 N (cL (cK (cB (cA (cB laws_heldInt64S_s.bd))))) 0 (laws_heldInt64S_s.st0 a0 a1 g3 g4 k5 i6) (roundK laws_heldInt64S_s.kp 1 0 L0 (laws_heldInt64S_s.k0 N K g3 g4)) = (laws_heldInt64S_s.b0 N (fun d0 => K (.int .i64 (d0)) [⟨false, .ints .i64 g3 g4⟩]) (fun k5 i6 => L0 (laws_heldInt64S_s.st0 a0 a1 g3 g4 k5 i6)) (fun o7 => (laws_heldInt64S_s.k0 N K g3 g4) (.exit 0) (laws_heldInt64S_s.sx0_0 g3 g4 o7)) a0 g4 k5 i6) := by
  have h := laws_heldInt64S_s.b0_gen N K L0 (laws_heldInt64S_s.k0 N K g3 g4) a0 a1 g3 g4 k5 i6
  rw [laws_heldInt64S_s.k0_mix] at h
  exact h

theorem laws_heldInt64S_s.a0_0_eq {ρ : Type} (N : Nat) (K : AV → Heap → Option ρ) (g3 : Nat) (g4 : Nat → Int) (o7 : Int) :
    (laws_heldInt64S_s.k0 N K g3 g4) (.exit 0) (laws_heldInt64S_s.sx0_0 g3 g4 o7) = (laws_heldInt64S_s.a0_0 N (fun d0 => K (.int .i64 (d0)) [⟨false, .ints .i64 g3 g4⟩]) o7) := by kernel_rfl

theorem laws_heldInt64S_s.l0_eq {ρ : Type} (N : Nat) (K : AV → Heap → Option ρ) (a0 : Nat) (a1 : Nat) (g3 : Nat) (g4 : Nat → Int) :
    ∀ (m : Nat) (k5 : Int) (i6 : Int), xloop (xcode (E38 N) ents laws_heldInt64S_s.kp 1 N (cL (cK (cB (cA (cB laws_heldInt64S_s.bd))))) 0) laws_heldInt64S_s.kp 1 0 m (laws_heldInt64S_s.st0 a0 a1 g3 g4 k5 i6) (laws_heldInt64S_s.k0 N K g3 g4) = (laws_heldInt64S_s.l0 N (fun d0 => K (.int .i64 (d0)) [⟨false, .ints .i64 g3 g4⟩]) a0 g4 (fun o7 => (laws_heldInt64S_s.k0 N K g3 g4) (.exit 0) (laws_heldInt64S_s.sx0_0 g3 g4 o7)) m k5 i6) := by
  intro m
  induction m with
  | zero => intros; rfl
  | succ m ih =>
    intro k5 i6
    refine (laws_heldInt64S_s.b0_eq N K (fun s => xloop (xcode (E38 N) ents laws_heldInt64S_s.kp 1 N (cL (cK (cB (cA (cB laws_heldInt64S_s.bd))))) 0) laws_heldInt64S_s.kp 1 0 m s (laws_heldInt64S_s.k0 N K g3 g4)) a0 a1 g3 g4 k5 i6).trans ?_
    simp only [ih]
    kernel_rfl

theorem laws_heldInt64S_s.s_eq {ρ : Type} (N : Nat) (K : AV → Heap → Option ρ) (a0 : Nat) (a1 : Nat) (k2 : Int) (g3 : Nat) (g4 : Nat → Int) :
    xbody (E38 N) ents laws_heldInt64S_s.kp N Go.Proofs.Try.f21 laws_heldInt64S_s.bd [.slice 0 0 a0 (some a1) 1, .int .i64 (k2)] [⟨false, .ints .i64 g3 g4⟩] K = (laws_heldInt64S_s.s N (fun d0 => K (.int .i64 (d0)) [⟨false, .ints .i64 g3 g4⟩]) (fun k5 i6 => xloop (xcode (E38 N) ents laws_heldInt64S_s.kp 1 N (cL (cK (cB (cA (cB laws_heldInt64S_s.bd))))) 0) laws_heldInt64S_s.kp 1 0 N (laws_heldInt64S_s.st0 a0 a1 g3 g4 k5 i6) (laws_heldInt64S_s.k0 N K g3 g4)) k2) := by kernel_rfl

theorem laws_heldInt64S_s.eq {ρ : Type} (N : Nat) (K : AV → Heap → Option ρ) (a0 : Nat) (a1 : Nat) (k2 : Int) (g3 : Nat) (g4 : Nat → Int) :
    xbody (E38 N) ents laws_heldInt64S_s.kp N Go.Proofs.Try.f21 laws_heldInt64S_s.bd [.slice 0 0 a0 (some a1) 1, .int .i64 (k2)] [⟨false, .ints .i64 g3 g4⟩] K = (laws_heldInt64S_s N (fun d0 => K (.int .i64 (d0)) [⟨false, .ints .i64 g3 g4⟩]) a0 a1 k2 g3 g4) := by
  refine (laws_heldInt64S_s.s_eq N K a0 a1 k2 g3 g4).trans ?_
  simp only [laws_heldInt64S_s.l0_eq, laws_heldInt64S_s.a0_0_eq]
  kernel_rfl

noncomputable def laws_heldInt64S_n.en (N : Nat) (ρ : Type) : List AV → Heap → (AV → Heap → Option ρ) → Option ρ
  | [.nils, .int .i64 (k0)], [], K => (laws_heldInt64S_n N (fun d0 => K (.int .i64 (d0)) []) k0)
  | [.slice 0 0 a0 (some a1) 1, .int .i64 (k2)], [⟨false, .ints .i64 g3 g4⟩], K => (laws_heldInt64S_s N (fun d0 => K (.int .i64 (d0)) [⟨false, .ints .i64 g3 g4⟩]) a0 a1 k2 g3 g4)
  | _, _, _ => none

theorem laws_heldInt64S_n.en_ok (N : Nat) (hE : EnvOk (E38 N) ents) (ρ : Type) (args : List AV) (sh : Heap) (K : AV → Heap → Option ρ) (r : ρ) (h : laws_heldInt64S_n.en N ρ args sh K = some r) : ∃ v sh', K v sh' = some r ∧ FnOk (E38 N).P 21 args sh v sh' := by
  unfold laws_heldInt64S_n.en at h
  split at h
  · exact fn_ok hE (kp := laws_heldInt64S_n.kp) (N := N) Go.Proofs.Try.func21 (c := laws_heldInt64S_n.bd) (by kernel_rfl) ((laws_heldInt64S_n.eq N _ _).trans h)
  · exact fn_ok hE (kp := laws_heldInt64S_s.kp) (N := N) Go.Proofs.Try.func21 (c := laws_heldInt64S_s.bd) (by kernel_rfl) ((laws_heldInt64S_s.eq N _ _ _ _ _ _).trans h)
  · cases h

noncomputable def E39 (N : Nat) : Env := (E38 N).add 21 (laws_heldInt64S_n.en N)

theorem E39_ok (N : Nat) : EnvOk (E39 N) ents := Env.add_ok (E38_ok N) (laws_heldInt64S_n.en_ok N (E38_ok N))

noncomputable def laws_FnExactFirstFault.kp : Keeps := ⟨[], []⟩

noncomputable def laws_FnExactFirstFault.bd : Code := bodyOf Go.Proofs.Try.f4

noncomputable def laws_FnExactFirstFault.fin {ρ : Type} (N : Nat) (K : AV → Heap → Option ρ) : XE → St → Option ρ := finK (E39 N) Go.Proofs.Try.f4 [] K

theorem laws_FnExactFirstFault.eq {ρ : Type} (N : Nat) (K : AV → Heap → Option ρ) (aA0 : Nat → Int) (aA1 : Nat → Int) :
    xbody (E39 N) ents laws_FnExactFirstFault.kp N Go.Proofs.Try.f4 laws_FnExactFirstFault.bd [.agg [⟨.i64, 2, aA0⟩, ⟨.u8, 520, aA1⟩]] [] K = (laws_FnExactFirstFault N (fun d0 => K (.bool (d0)) []) aA0 aA1) := by kernel_rfl

noncomputable def laws_FnExactFirstFault.en (N : Nat) (ρ : Type) : List AV → Heap → (AV → Heap → Option ρ) → Option ρ
  | [.agg [⟨.i64, 2, aA0⟩, ⟨.u8, 520, aA1⟩]], [], K => (laws_FnExactFirstFault N (fun d0 => K (.bool (d0)) []) aA0 aA1)
  | _, _, _ => none

theorem laws_FnExactFirstFault.en_ok (N : Nat) (hE : EnvOk (E39 N) ents) (ρ : Type) (args : List AV) (sh : Heap) (K : AV → Heap → Option ρ) (r : ρ) (h : laws_FnExactFirstFault.en N ρ args sh K = some r) : ∃ v sh', K v sh' = some r ∧ FnOk (E39 N).P 4 args sh v sh' := by
  unfold laws_FnExactFirstFault.en at h
  split at h
  · exact fn_ok hE (kp := laws_FnExactFirstFault.kp) (N := N) Go.Proofs.Try.func4 (c := laws_FnExactFirstFault.bd) (by kernel_rfl) ((laws_FnExactFirstFault.eq N _ _ _).trans h)
  · cases h

noncomputable def E40 (N : Nat) : Env := (E39 N).add 4 (laws_FnExactFirstFault.en N)

theorem E40_ok (N : Nat) : EnvOk (E40 N) ents := Env.add_ok (E39_ok N) (laws_FnExactFirstFault.en_ok N (E39_ok N))

noncomputable def spec_IsCommutative.kp : Keeps := ⟨[(0, [1, 4], 2), (2, [1, 4, 5], 2)], [(0, [], 2), (2, [1, 4], 2)]⟩

noncomputable def spec_IsCommutative.bd : Code := bodyOf Go.Proofs.Try.f22

noncomputable def spec_IsCommutative.fin {ρ : Type} (N : Nat) (K : AV → Heap → Option ρ) : XE → St → Option ρ := finK (E40 N) Go.Proofs.Try.f22 [] K

noncomputable def spec_IsCommutative.k0 {ρ : Type} (N : Nat) (K : AV → Heap → Option ρ) : XE → St → Option ρ := (blockK spec_IsCommutative.kp 0 0 (seqK (xcode (E40 N) ents spec_IsCommutative.kp 0 N (cB (cB (cB spec_IsCommutative.bd))) 0) (spec_IsCommutative.fin N K)))

theorem spec_IsCommutative.k0_mix {ρ : Type} (N : Nat) (K : AV → Heap → Option ρ) : mixK (spec_IsCommutative.fin N K .ret) (spec_IsCommutative.k0 N K) = (spec_IsCommutative.k0 N K) := by
  funext e s; cases e <;> rfl

noncomputable def spec_IsCommutative.st0 (a0 : Nat → Int) (a1 : Nat → Int) (i3 : Int) : St := ⟨sl 33 [(1, .sptr [(0, 2), (1, 520)]), (4, .int .i64 (i3))], [⟨true, .ints .i64 2 a0⟩, ⟨true, .ints .u8 520 a1⟩]⟩

noncomputable def spec_IsCommutative.sx0_0 (a0 : Nat → Int) (a1 : Nat → Int) : St := ⟨sl 33 [], [⟨true, .ints .i64 2 a0⟩, ⟨true, .ints .u8 520 a1⟩]⟩

noncomputable def spec_IsCommutative.k1g {ρ : Type} (N : Nat) (L0 : St → Option ρ) (kv : XE → St → Option ρ) : XE → St → Option ρ := (blockK spec_IsCommutative.kp 0 2 (blockK spec_IsCommutative.kp 0 1 (seqK (xcode (E40 N) ents spec_IsCommutative.kp 0 N (cB (cB (cL (cK (cB (cA (cB (cB spec_IsCommutative.bd)))))))) 0) (roundK spec_IsCommutative.kp 0 0 L0 kv))))

theorem spec_IsCommutative.k1_mix {ρ : Type} (N : Nat) (K : AV → Heap → Option ρ) (L0 : St → Option ρ) : mixK (spec_IsCommutative.fin N K .ret) (spec_IsCommutative.k1g N L0 (spec_IsCommutative.k0 N K)) = (spec_IsCommutative.k1g N L0 (spec_IsCommutative.k0 N K)) := by
  funext e s; cases e <;> rfl

noncomputable def spec_IsCommutative.st1 (a0 : Nat → Int) (a1 : Nat → Int) (i3 : Int) (k4 : Int) : St := ⟨sl 33 [(1, .sptr [(0, 2), (1, 520)]), (4, .int .i64 (i3)), (5, .int .i64 (k4))], [⟨true, .ints .i64 2 a0⟩, ⟨true, .ints .u8 520 a1⟩]⟩

noncomputable def spec_IsCommutative.sx1_0 (a0 : Nat → Int) (a1 : Nat → Int) (i3 : Int) : St := ⟨sl 33 [(1, .sptr [(0, 2), (1, 520)]), (4, .int .i64 (i3))], [⟨true, .ints .i64 2 a0⟩, ⟨true, .ints .u8 520 a1⟩]⟩

theorem spec_IsCommutative.b1_gen {ρ : Type} (N : Nat) (K : AV → Heap → Option ρ) (L1 : St → Option ρ) (kv : XE → St → Option ρ) (a0 : Nat → Int) (a1 : Nat → Int) (i3 : Int) (k4 : Int) :
    xcode (E40 N) ents spec_IsCommutative.kp 0 N (cL (cK (cB (cK (cA (cB (cL (cK (cB (cA (cB (cB spec_IsCommutative.bd)))))))))))) 2 (spec_IsCommutative.st1 a0 a1 i3 k4) (roundK spec_IsCommutative.kp 0 2 L1 (mixK (spec_IsCommutative.fin N K .ret) kv)) = (spec_IsCommutative.b1 N (fun d0 d1 => K (.tup [.bool (d0), .int .i64 (d1)]) []) (fun k4 => L1 (spec_IsCommutative.st1 a0 a1 i3 k4)) (kv (.exit 2) (spec_IsCommutative.sx1_0 a0 a1 i3)) a1 i3 k4) := by kernel_rfl

theorem spec_IsCommutative.b1_eq {ρ : Type} (N : Nat) (K : AV → Heap → Option ρ) (L0 : St → Option ρ) (L1 : St → Option ρ) (a0 : Nat → Int) (a1 : Nat → Int) (i3 : Int) (k4 : Int) :
    xcode (E40 N) ents spec_IsCommutative.kp 0 N (cL (cK (cB (cK (cA (cB (cL (cK (cB (cA (cB (cB spec_IsCommutative.bd)))))))))))) 2 (spec_IsCommutative.st1 a0 a1 i3 k4) (roundK spec_IsCommutative.kp 0 2 L1 (spec_IsCommutative.k1g N L0 (spec_IsCommutative.k0 N K))) = (spec_IsCommutative.b1 N (fun d0 d1 => K (.tup [.bool (d0), .int .i64 (d1)]) []) (fun k4 => L1 (spec_IsCommutative.st1 a0 a1 i3 k4)) ((spec_IsCommutative.k1g N L0 (spec_IsCommutative.k0 N K)) (.exit 2) (spec_IsCommutative.sx1_0 a0 a1 i3)) a1 i3 k4) := by
  have h := spec_IsCommutative.b1_gen N K L1 (spec_IsCommutative.k1g N L0 (spec_IsCommutative.k0 N K)) a0 a1 i3 k4
  rw [spec_IsCommutative.k1_mix] at h
  exact h

theorem spec_IsCommutative.a1_0_gen {ρ : Type} (N : Nat) (K : AV → Heap → Option ρ) (L0 : St → Option ρ) (kv : XE → St → Option ρ) (a0 : Nat → Int) (a1 : Nat → Int) (i3 : Int) :
    (spec_IsCommutative.k1g N L0 (mixK (spec_IsCommutative.fin N K .ret) kv)) (.exit 2) (spec_IsCommutative.sx1_0 a0 a1 i3) = (spec_IsCommutative.a1_0 N (fun d0 d1 => K (.tup [.bool (d0), .int .i64 (d1)]) []) (fun i3 => L0 (spec_IsCommutative.st0 a0 a1 i3)) (kv (.exit 0) (spec_IsCommutative.sx0_0 a0 a1)) i3) := by kernel_rfl

theorem spec_IsCommutative.a1_0_eq {ρ : Type} (N : Nat) (K : AV → Heap → Option ρ) (L0 : St → Option ρ) (a0 : Nat → Int) (a1 : Nat → Int) (i3 : Int) :
    (spec_IsCommutative.k1g N L0 (spec_IsCommutative.k0 N K)) (.exit 2) (spec_IsCommutative.sx1_0 a0 a1 i3) = (spec_IsCommutative.a1_0 N (fun d0 d1 => K (.tup [.bool (d0), .int .i64 (d1)]) []) (fun i3 => L0 (spec_IsCommutative.st0 a0 a1 i3)) ((spec_IsCommutative.k0 N K) (.exit 0) (spec_IsCommutative.sx0_0 a0 a1)) i3) := by
  have h := spec_IsCommutative.a1_0_gen N K L0 (spec_IsCommutative.k0 N K) a0 a1 i3
  rw [spec_IsCommutative.k0_mix] at h
  exact h

theorem spec_IsCommutative.b0_gen {ρ : Type} (N : Nat) (K : AV → Heap → Option ρ) (L0 : St → Option ρ) (kv : XE → St → Option ρ) (a0 : Nat → Int) (a1 : Nat → Int) (i3 : Int) :
    xcode (E40 N) ents spec_IsCommutative.kp 0 N (cL (cK (cB (cA (cB (cB spec_IsCommutative.bd)))))) 0 (spec_IsCommutative.st0 a0 a1 i3) (roundK spec_IsCommutative.kp 0 0 L0 (mixK (spec_IsCommutative.fin N K .ret) kv)) = (spec_IsCommutative.b0 N (fun d0 d1 => K (.tup [.bool (d0), .int .i64 (d1)]) []) (fun k4 => xloop (xcode (E40 N) ents spec_IsCommutative.kp 0 N (cL (cK (cB (cK (cA (cB (cL (cK (cB (cA (cB (cB spec_IsCommutative.bd)))))))))))) 2) spec_IsCommutative.kp 0 2 N (spec_IsCommutative.st1 a0 a1 i3 k4) (spec_IsCommutative.k1g N L0 (mixK (spec_IsCommutative.fin N K .ret) kv))) (fun i3 => L0 (spec_IsCommutative.st0 a0 a1 i3)) (kv (.exit 0) (spec_IsCommutative.sx0_0 a0 a1)) a0 i3) := by kernel_rfl

theorem spec_IsCommutative.b0_eq {ρ : Type} (N : Nat) (K : AV → Heap → Option ρ) (L0 : St → Option ρ) (a0 : Nat → Int) (a1 : Nat → Int) (i3 : Int) :
    xcode (E40 N) ents spec_IsCommutative.kp 0 N (cL (cK (cB (cA (cB (cB spec_IsCommutative.bd)))))) 0 (spec_IsCommutative.st0 a0 a1 i3) (roundK spec_IsCommutative.kp 0 0 L0 (spec_IsCommutative.k0 N K)) = (spec_IsCommutative.b0 N (fun d0 d1 => K (.tup [.bool (d0), .int .i64 (d1)]) []) (fun k4 => xloop (xcode (E40 N) ents spec_IsCommutative.kp 0 N (cL (cK (cB (cK (cA (cB (cL (cK (cB (cA (cB (cB spec_IsCommutative.bd)))))))))))) 2) spec_IsCommutative.kp 0 2 N (spec_IsCommutative.st1 a0 a1 i3 k4) (spec_IsCommutative.k1g N L0 (spec_IsCommutative.k0 N K))) (fun i3 => L0 (spec_IsCommutative.st0 a0 a1 i3)) ((spec_IsCommutative.k0 N K) (.exit 0) (spec_IsCommutative.sx0_0 a0 a1)) a0 i3) := by
  have h := spec_IsCommutative.b0_gen N K L0 (spec_IsCommutative.k0 N K) a0 a1 i3
  rw [spec_IsCommutative.k0_mix] at h
  exact h

theorem spec_IsCommutative.a0_0_eq {ρ : Type} (N : Nat) (K : AV → Heap → Option ρ) (a0 : Nat → Int) (a1 : Nat → Int) :
    (spec_IsCommutative.k0 N K) (.exit 0) (spec_IsCommutative.sx0_0 a0 a1) = (spec_IsCommutative.a0_0 N (fun d0 d1 => K (.tup [.bool (d0), .int .i64 (d1)]) [])) := by kernel_rfl

theorem spec_IsCommutative.l1_eq {ρ : Type} (N : Nat) (K : AV → Heap → Option ρ) (L0 : St → Option ρ) (a0 : Nat → Int) (a1 : Nat → Int) (i3 : Int) :
    ∀ (m : Nat) (k4 : Int), xloop (xcode (E40 N) ents spec_IsCommutative.kp 0 N (cL (cK (cB (cK (cA (cB (cL (cK (cB (cA (cB (cB spec_IsCommutative.bd)))))))))))) 2) spec_IsCommutative.kp 0 2 m (spec_IsCommutative.st1 a0 a1 i3 k4) (spec_IsCommutative.k1g N L0 (spec_IsCommutative.k0 N K)) = (spec_IsCommutative.l1 N (fun d0 d1 => K (.tup [.bool (d0), .int .i64 (d1)]) []) a1 i3 ((spec_IsCommutative.k1g N L0 (spec_IsCommutative.k0 N K)) (.exit 2) (spec_IsCommutative.sx1_0 a0 a1 i3)) m k4) := by
  intro m
  induction m with
  | zero => intros; rfl
  | succ m ih =>
    intro k4
    refine (spec_IsCommutative.b1_eq N K L0 (fun s => xloop (xcode (E40 N) ents spec_IsCommutative.kp 0 N (cL (cK (cB (cK (cA (cB (cL (cK (cB (cA (cB (cB spec_IsCommutative.bd)))))))))))) 2) spec_IsCommutative.kp 0 2 m s (spec_IsCommutative.k1g N L0 (spec_IsCommutative.k0 N K))) a0 a1 i3 k4).trans ?_
    simp only [ih]
    kernel_rfl

theorem spec_IsCommutative.l0_eq {ρ : Type} (N : Nat) (K : AV → Heap → Option ρ) (a0 : Nat → Int) (a1 : Nat → Int) :
    ∀ (m : Nat) (i3 : Int), xloop (xcode (E40 N) ents spec_IsCommutative.kp 0 N (cL (cK (cB (cA (cB (cB spec_IsCommutative.bd)))))) 0) spec_IsCommutative.kp 0 0 m (spec_IsCommutative.st0 a0 a1 i3) (spec_IsCommutative.k0 N K) = (spec_IsCommutative.l0 N (fun d0 d1 => K (.tup [.bool (d0), .int .i64 (d1)]) []) a0 a1 ((spec_IsCommutative.k0 N K) (.exit 0) (spec_IsCommutative.sx0_0 a0 a1)) m i3) := by
  intro m
  induction m with
  | zero => intros; rfl
  | succ m ih =>
    intro i3
    refine (spec_IsCommutative.b0_eq N K (fun s => xloop (xcode (E40 N) ents spec_IsCommutative.kp 0 N (cL (cK (cB (cA (cB (cB spec_IsCommutative.bd)))))) 0) spec_IsCommutative.kp 0 0 m s (spec_IsCommutative.k0 N K)) a0 a1 i3).trans ?_
    simp only [ih, spec_IsCommutative.l1_eq, spec_IsCommutative.a1_0_eq]
    kernel_rfl

theorem spec_IsCommutative.s_eq {ρ : Type} (N : Nat) (K : AV → Heap → Option ρ) (a0 : Nat → Int) (a1 : Nat → Int) :
    xbody (E40 N) ents spec_IsCommutative.kp N Go.Proofs.Try.f22 spec_IsCommutative.bd [.agg [⟨.i64, 2, a0⟩, ⟨.u8, 520, a1⟩]] [] K = (spec_IsCommutative.s N (fun d0 d1 => K (.tup [.bool (d0), .int .i64 (d1)]) []) (fun i3 => xloop (xcode (E40 N) ents spec_IsCommutative.kp 0 N (cL (cK (cB (cA (cB (cB spec_IsCommutative.bd)))))) 0) spec_IsCommutative.kp 0 0 N (spec_IsCommutative.st0 a0 a1 i3) (spec_IsCommutative.k0 N K)) a0 a1) := by kernel_rfl

theorem spec_IsCommutative.eq {ρ : Type} (N : Nat) (K : AV → Heap → Option ρ) (a0 : Nat → Int) (a1 : Nat → Int) :
    xbody (E40 N) ents spec_IsCommutative.kp N Go.Proofs.Try.f22 spec_IsCommutative.bd [.agg [⟨.i64, 2, a0⟩, ⟨.u8, 520, a1⟩]] [] K = (spec_IsCommutative N (fun d0 d1 => K (.tup [.bool (d0), .int .i64 (d1)]) []) a0 a1) := by
  refine (spec_IsCommutative.s_eq N K a0 a1).trans ?_
  simp only [spec_IsCommutative.l0_eq, spec_IsCommutative.a0_0_eq]
  kernel_rfl

noncomputable def spec_IsCommutative.en (N : Nat) (ρ : Type) : List AV → Heap → (AV → Heap → Option ρ) → Option ρ
  | [.agg [⟨.i64, 2, a0⟩, ⟨.u8, 520, a1⟩]], [], K => (spec_IsCommutative N (fun d0 d1 => K (.tup [.bool (d0), .int .i64 (d1)]) []) a0 a1)
  | _, _, _ => none

theorem spec_IsCommutative.en_ok (N : Nat) (hE : EnvOk (E40 N) ents) (ρ : Type) (args : List AV) (sh : Heap) (K : AV → Heap → Option ρ) (r : ρ) (h : spec_IsCommutative.en N ρ args sh K = some r) : ∃ v sh', K v sh' = some r ∧ FnOk (E40 N).P 22 args sh v sh' := by
  unfold spec_IsCommutative.en at h
  split at h
  · exact fn_ok hE (kp := spec_IsCommutative.kp) (N := N) Go.Proofs.Try.func22 (c := spec_IsCommutative.bd) (by kernel_rfl) ((spec_IsCommutative.eq N _ _ _).trans h)
  · cases h

noncomputable def E41 (N : Nat) : Env := (E40 N).add 22 (spec_IsCommutative.en N)

theorem E41_ok (N : Nat) : EnvOk (E41 N) ents := Env.add_ok (E40_ok N) (spec_IsCommutative.en_ok N (E40_ok N))

noncomputable def impl_Algebra_has_c1.kp : Keeps := ⟨[], []⟩

noncomputable def impl_Algebra_has_c1.bd : Code := bodyOf Go.Proofs.Try.f106

noncomputable def impl_Algebra_has_c1.fin {ρ : Type} (N : Nat) (K : AV → Heap → Option ρ) (g1 : Nat → Int) (g2 : Nat → Int) : XE → St → Option ρ := finK (E41 N) Go.Proofs.Try.f106 [⟨false, .avs [.sptr [(1, 2), (2, 520)]]⟩, ⟨false, .ints .i64 2 g1⟩, ⟨false, .ints .u8 520 g2⟩] K

theorem impl_Algebra_has_c1.eq {ρ : Type} (N : Nat) (K : AV → Heap → Option ρ) (v0 : Nat → Int) (g1 : Nat → Int) (g2 : Nat → Int) :
    xbody (E41 N) ents impl_Algebra_has_c1.kp N Go.Proofs.Try.f106 impl_Algebra_has_c1.bd [.agg [⟨.u8, 8, v0⟩], .sptr [(0, 1)]] [⟨false, .avs [.sptr [(1, 2), (2, 520)]]⟩, ⟨false, .ints .i64 2 g1⟩, ⟨false, .ints .u8 520 g2⟩] K = (impl_Algebra_has_c1 N (fun d0 => K (.bool (d0)) [⟨false, .avs [.sptr [(1, 2), (2, 520)]]⟩, ⟨false, .ints .i64 2 g1⟩, ⟨false, .ints .u8 520 g2⟩]) v0 g1 g2) := by kernel_rfl

noncomputable def impl_Algebra_has_c1.en (N : Nat) (ρ : Type) : List AV → Heap → (AV → Heap → Option ρ) → Option ρ
  | [.agg [⟨.u8, 8, v0⟩], .sptr [(0, 1)]], [⟨false, .avs [.sptr [(1, 2), (2, 520)]]⟩, ⟨false, .ints .i64 2 g1⟩, ⟨false, .ints .u8 520 g2⟩], K => (impl_Algebra_has_c1 N (fun d0 => K (.bool (d0)) [⟨false, .avs [.sptr [(1, 2), (2, 520)]]⟩, ⟨false, .ints .i64 2 g1⟩, ⟨false, .ints .u8 520 g2⟩]) v0 g1 g2)
  | _, _, _ => none

theorem impl_Algebra_has_c1.en_ok (N : Nat) (hE : EnvOk (E41 N) ents) (ρ : Type) (args : List AV) (sh : Heap) (K : AV → Heap → Option ρ) (r : ρ) (h : impl_Algebra_has_c1.en N ρ args sh K = some r) : ∃ v sh', K v sh' = some r ∧ FnOk (E41 N).P 106 args sh v sh' := by
  unfold impl_Algebra_has_c1.en at h
  split at h
  · exact fn_ok hE (kp := impl_Algebra_has_c1.kp) (N := N) Go.Proofs.Try.func106 (c := impl_Algebra_has_c1.bd) (by kernel_rfl) ((impl_Algebra_has_c1.eq N _ _ _ _).trans h)
  · cases h

noncomputable def E42 (N : Nat) : Env := (E41 N).add 106 (impl_Algebra_has_c1.en N)

theorem E42_ok (N : Nat) : EnvOk (E42 N) ents := Env.add_ok (E41_ok N) (impl_Algebra_has_c1.en_ok N (E41_ok N))
end Go.Proofs.Ytmjpfchbkolcbaa.H
