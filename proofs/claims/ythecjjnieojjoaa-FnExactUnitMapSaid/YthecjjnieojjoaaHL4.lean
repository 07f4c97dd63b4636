/- The program computes these functions. -/
import Derived.Test.YthecjjnieojjoaaHL3
namespace Go.Proofs.Ythecjjnieojjoaa.H
set_option linter.unusedVariables false
set_option linter.unusedSimpArgs false
open Go Go.RowKit Go.Proofs.Ythecjjnieojjoaa.Hx
set_option linter.unusedVariables false
set_option maxRecDepth 100000
noncomputable def spec_UnitMap.kp : Keeps := ⟨[(0, [2, 3, 4, 7, 8], 6)], [(0, [4, 7], 6)]⟩

noncomputable def spec_UnitMap.bd : Code := bodyOf Go.Proofs.Try.f41

noncomputable def spec_UnitMap.fin {ρ : Type} (N : Nat) (K : AV → Heap → Option ρ) : XE → St → Option ρ := finK (E85 N) Go.Proofs.Try.f41 [] K

noncomputable def spec_UnitMap.k0 {ρ : Type} (N : Nat) (K : AV → Heap → Option ρ) : XE → St → Option ρ := (blockK spec_UnitMap.kp 0 0 (seqK (xcode (E85 N) ents spec_UnitMap.kp 0 N (cB (cB (cB (cB spec_UnitMap.bd)))) 0) (spec_UnitMap.fin N K)))

theorem spec_UnitMap.k0_mix {ρ : Type} (N : Nat) (K : AV → Heap → Option ρ) : mixK (spec_UnitMap.fin N K .ret) (spec_UnitMap.k0 N K) = (spec_UnitMap.k0 N K) := by
  funext e s; cases e <;> rfl

noncomputable def spec_UnitMap.st0 (c0 : Nat → Int) (c1 : Nat → Int) (a2 : Nat → Int) (a3 : Nat → Int) (i5 : Int) (g6 : Nat → Int) : St := ⟨sl 37 [(2, .sptr [(0, 2), (1, 520)]), (3, .sptr [(2, 2), (3, 520)]), (4, .sptr [(4, 64)]), (7, .sptr [(5, 64)]), (8, .int .i64 (i5))], [⟨true, .ints .i64 2 c0⟩, ⟨true, .ints .u8 520 c1⟩, ⟨true, .ints .i64 2 a2⟩, ⟨true, .ints .u8 520 a3⟩, ⟨true, .ints .u8 64 (fun _ => 0)⟩, ⟨true, .ints .u8 64 g6⟩]⟩

noncomputable def spec_UnitMap.sx0_0 (c0 : Nat → Int) (c1 : Nat → Int) (a2 : Nat → Int) (a3 : Nat → Int) (o8 : Nat → Int) : St := ⟨sl 37 [(4, .sptr [(4, 64)]), (7, .sptr [(5, 64)])], [⟨true, .ints .i64 2 c0⟩, ⟨true, .ints .u8 520 c1⟩, ⟨true, .ints .i64 2 a2⟩, ⟨true, .ints .u8 520 a3⟩, ⟨true, .ints .u8 64 (fun _ => 0)⟩, ⟨true, .ints .u8 64 o8⟩]⟩

theorem spec_UnitMap.b0_gen {ρ : Type} (N : Nat) (K : AV → Heap → Option ρ) (L0 : St → Option ρ) (kv : XE → St → Option ρ) (c0 : Nat → Int) (c1 : Nat → Int) (a2 : Nat → Int) (a3 : Nat → Int) (i5 : Int) (g6 : Nat → Int) :
    xcode (E85 N) ents spec_UnitMap.kp 0 N (cL (cK (cB (cA (cB (cB (cB spec_UnitMap.bd))))))) 0 (spec_UnitMap.st0 c0 c1 a2 a3 i5 g6) (roundK spec_UnitMap.kp 0 0 L0 (mixK (spec_UnitMap.fin N K .ret) kv)) = (spec_UnitMap.b0 N (fun d0 d1 => K (.tup [.agg [⟨.u8, 64, d0⟩], .int .i64 (d1)]) []) (fun i5 g6 => L0 (spec_UnitMap.st0 c0 c1 a2 a3 i5 g6)) (fun o8 => kv (.exit 0) (spec_UnitMap.sx0_0 c0 c1 a2 a3 o8)) c0 c1 a3 i5 g6) := by kernel_rfl

theorem spec_UnitMap.b0_eq {ρ : Type} (N : Nat) (K : AV → Heap → Option ρ) (L0 : St → Option ρ) (c0 : Nat → Int) (c1 : Nat → Int) (a2 : Nat → Int) (a3 : Nat → Int) (i5 : Int) (g6 : Nat → Int) :
    xcode (E85 N) ents spec_UnitMap.kp 0 N (cL (cK (cB (cA (cB (cB (cB spec_UnitMap.bd))))))) 0 (spec_UnitMap.st0 c0 c1 a2 a3 i5 g6) (roundK spec_UnitMap.kp 0 0 L0 (spec_UnitMap.k0 N K)) = (spec_UnitMap.b0 N (fun d0 d1 => K (.tup [.agg [⟨.u8, 64, d0⟩], .int .i64 (d1)]) []) (fun i5 g6 => L0 (spec_UnitMap.st0 c0 c1 a2 a3 i5 g6)) (fun o8 => (spec_UnitMap.k0 N K) (.exit 0) (spec_UnitMap.sx0_0 c0 c1 a2 a3 o8)) c0 c1 a3 i5 g6) := by
  have h := spec_UnitMap.b0_gen N K L0 (spec_UnitMap.k0 N K) c0 c1 a2 a3 i5 g6
  rw [spec_UnitMap.k0_mix] at h
  exact h

theorem spec_UnitMap.a0_0_eq {ρ : Type} (N : Nat) (K : AV → Heap → Option ρ) (c0 : Nat → Int) (c1 : Nat → Int) (a2 : Nat → Int) (a3 : Nat → Int) (o8 : Nat → Int) :
    (spec_UnitMap.k0 N K) (.exit 0) (spec_UnitMap.sx0_0 c0 c1 a2 a3 o8) = (spec_UnitMap.a0_0 N (fun d0 d1 => K (.tup [.agg [⟨.u8, 64, d0⟩], .int .i64 (d1)]) []) o8) := by kernel_rfl

theorem spec_UnitMap.l0_eq {ρ : Type} (N : Nat) (K : AV → Heap → Option ρ) (c0 : Nat → Int) (c1 : Nat → Int) (a2 : Nat → Int) (a3 : Nat → Int) :
    ∀ (m : Nat) (i5 : Int) (g6 : Nat → Int), xloop (xcode (E85 N) ents spec_UnitMap.kp 0 N (cL (cK (cB (cA (cB (cB (cB spec_UnitMap.bd))))))) 0) spec_UnitMap.kp 0 0 m (spec_UnitMap.st0 c0 c1 a2 a3 i5 g6) (spec_UnitMap.k0 N K) = (spec_UnitMap.l0 N (fun d0 d1 => K (.tup [.agg [⟨.u8, 64, d0⟩], .int .i64 (d1)]) []) c0 c1 a3 (fun o8 => (spec_UnitMap.k0 N K) (.exit 0) (spec_UnitMap.sx0_0 c0 c1 a2 a3 o8)) m i5 g6) := by
  intro m
  induction m with
  | zero => intros; rfl
  | succ m ih =>
    intro i5 g6
    refine (spec_UnitMap.b0_eq N K (fun s => xloop (xcode (E85 N) ents spec_UnitMap.kp 0 N (cL (cK (cB (cA (cB (cB (cB spec_UnitMap.bd))))))) 0) spec_UnitMap.kp 0 0 m s (spec_UnitMap.k0 N K)) c0 c1 a2 a3 i5 g6).trans ?_
    simp only [ih]
    kernel_rfl

theorem spec_UnitMap.s_eq {ρ : Type} (N : Nat) (K : AV → Heap → Option ρ) (c0 : Nat → Int) (c1 : Nat → Int) (a2 : Nat → Int) (a3 : Nat → Int) :
    xbody (E85 N) ents spec_UnitMap.kp N Go.Proofs.Try.f41 spec_UnitMap.bd [.agg [⟨.i64, 2, c0⟩, ⟨.u8, 520, c1⟩], .agg [⟨.i64, 2, a2⟩, ⟨.u8, 520, a3⟩]] [] K = (spec_UnitMap.s N (fun d0 d1 => K (.tup [.agg [⟨.u8, 64, d0⟩], .int .i64 (d1)]) []) (fun i5 g6 => xloop (xcode (E85 N) ents spec_UnitMap.kp 0 N (cL (cK (cB (cA (cB (cB (cB spec_UnitMap.bd))))))) 0) spec_UnitMap.kp 0 0 N (spec_UnitMap.st0 c0 c1 a2 a3 i5 g6) (spec_UnitMap.k0 N K)) c0 c1 a2 a3) := by kernel_rfl

theorem spec_UnitMap.eq {ρ : Type} (N : Nat) (K : AV → Heap → Option ρ) (c0 : Nat → Int) (c1 : Nat → Int) (a2 : Nat → Int) (a3 : Nat → Int) :
    xbody (E85 N) ents spec_UnitMap.kp N Go.Proofs.Try.f41 spec_UnitMap.bd [.agg [⟨.i64, 2, c0⟩, ⟨.u8, 520, c1⟩], .agg [⟨.i64, 2, a2⟩, ⟨.u8, 520, a3⟩]] [] K = (spec_UnitMap N (fun d0 d1 => K (.tup [.agg [⟨.u8, 64, d0⟩], .int .i64 (d1)]) []) c0 c1 a2 a3) := by
  refine (spec_UnitMap.s_eq N K c0 c1 a2 a3).trans ?_
  simp only [spec_UnitMap.l0_eq, spec_UnitMap.a0_0_eq]
  kernel_rfl

noncomputable def spec_UnitMap.en (N : Nat) (ρ : Type) : List AV → Heap → (AV → Heap → Option ρ) → Option ρ
  | [.agg [⟨.i64, 2, c0⟩, ⟨.u8, 520, c1⟩], .agg [⟨.i64, 2, a2⟩, ⟨.u8, 520, a3⟩]], [], K => (spec_UnitMap N (fun d0 d1 => K (.tup [.agg [⟨.u8, 64, d0⟩], .int .i64 (d1)]) []) c0 c1 a2 a3)
  | _, _, _ => none

theorem spec_UnitMap.en_ok (N : Nat) (hE : EnvOk (E85 N) ents) (ρ : Type) (args : List AV) (sh : Heap) (K : AV → Heap → Option ρ) (r : ρ) (h : spec_UnitMap.en N ρ args sh K = some r) : ∃ v sh', K v sh' = some r ∧ FnOk (E85 N).P 41 args sh v sh' := by
  unfold spec_UnitMap.en at h
  split at h
  · exact fn_ok hE (kp := spec_UnitMap.kp) (N := N) Go.Proofs.Try.func41 (c := spec_UnitMap.bd) (by kernel_rfl) ((spec_UnitMap.eq N _ _ _ _ _).trans h)
  · cases h

noncomputable def E86 (N : Nat) : Env := (E85 N).add 41 (spec_UnitMap.en N)

theorem E86_ok (N : Nat) : EnvOk (E86 N) ents := Env.add_ok (E85_ok N) (spec_UnitMap.en_ok N (E85_ok N))

noncomputable def impl_Algebra_isShaped.kp : Keeps := ⟨[], []⟩

noncomputable def impl_Algebra_isShaped.bd : Code := bodyOf Go.Proofs.Try.f136

noncomputable def impl_Algebra_isShaped.fin {ρ : Type} (N : Nat) (K : AV → Heap → Option ρ) (g0 : Nat → Int) (g1 : Nat → Int) : XE → St → Option ρ := finK (E86 N) Go.Proofs.Try.f136 [⟨false, .ints .i64 2 g0⟩, ⟨false, .ints .u8 520 g1⟩] K

theorem impl_Algebra_isShaped.eq {ρ : Type} (N : Nat) (K : AV → Heap → Option ρ) (g0 : Nat → Int) (g1 : Nat → Int) :
    xbody (E86 N) ents impl_Algebra_isShaped.kp N Go.Proofs.Try.f136 impl_Algebra_isShaped.bd [.sptr [(0, 2), (1, 520)]] [⟨false, .ints .i64 2 g0⟩, ⟨false, .ints .u8 520 g1⟩] K = (impl_Algebra_isShaped N (fun d0 => K (.bool (d0)) [⟨false, .ints .i64 2 g0⟩, ⟨false, .ints .u8 520 g1⟩]) g0 g1) := by kernel_rfl

noncomputable def impl_Algebra_isShaped.en (N : Nat) (ρ : Type) : List AV → Heap → (AV → Heap → Option ρ) → Option ρ
  | [.sptr [(0, 2), (1, 520)]], [⟨false, .ints .i64 2 g0⟩, ⟨false, .ints .u8 520 g1⟩], K => (impl_Algebra_isShaped N (fun d0 => K (.bool (d0)) [⟨false, .ints .i64 2 g0⟩, ⟨false, .ints .u8 520 g1⟩]) g0 g1)
  | _, _, _ => none

theorem impl_Algebra_isShaped.en_ok (N : Nat) (hE : EnvOk (E86 N) ents) (ρ : Type) (args : List AV) (sh : Heap) (K : AV → Heap → Option ρ) (r : ρ) (h : impl_Algebra_isShaped.en N ρ args sh K = some r) : ∃ v sh', K v sh' = some r ∧ FnOk (E86 N).P 136 args sh v sh' := by
  unfold impl_Algebra_isShaped.en at h
  split at h
  · exact fn_ok hE (kp := impl_Algebra_isShaped.kp) (N := N) Go.Proofs.Try.func136 (c := impl_Algebra_isShaped.bd) (by kernel_rfl) ((impl_Algebra_isShaped.eq N _ _ _).trans h)
  · cases h

noncomputable def E87 (N : Nat) : Env := (E86 N).add 136 (impl_Algebra_isShaped.en N)

theorem E87_ok (N : Nat) : EnvOk (E87 N) ents := Env.add_ok (E86_ok N) (impl_Algebra_isShaped.en_ok N (E86_ok N))

noncomputable def impl_Algebra_field.kp : Keeps := ⟨[], []⟩

noncomputable def impl_Algebra_field.bd : Code := bodyOf Go.Proofs.Try.f80

noncomputable def impl_Algebra_field.fin {ρ : Type} (N : Nat) (K : AV → Heap → Option ρ) (g0 : Nat → Int) (g1 : Nat → Int) : XE → St → Option ρ := finK (E87 N) Go.Proofs.Try.f80 [⟨false, .ints .i64 2 g0⟩, ⟨false, .ints .u8 520 g1⟩] K

theorem impl_Algebra_field.eq {ρ : Type} (N : Nat) (K : AV → Heap → Option ρ) (g0 : Nat → Int) (g1 : Nat → Int) :
    xbody (E87 N) ents impl_Algebra_field.kp N Go.Proofs.Try.f80 impl_Algebra_field.bd [.sptr [(0, 2), (1, 520)]] [⟨false, .ints .i64 2 g0⟩, ⟨false, .ints .u8 520 g1⟩] K = (impl_Algebra_field N (fun d0 => K (.agg [⟨.i64, 2, d0⟩]) [⟨false, .ints .i64 2 g0⟩, ⟨false, .ints .u8 520 g1⟩]) g0 g1) := by kernel_rfl

noncomputable def impl_Algebra_field.en (N : Nat) (ρ : Type) : List AV → Heap → (AV → Heap → Option ρ) → Option ρ
  | [.sptr [(0, 2), (1, 520)]], [⟨false, .ints .i64 2 g0⟩, ⟨false, .ints .u8 520 g1⟩], K => (impl_Algebra_field N (fun d0 => K (.agg [⟨.i64, 2, d0⟩]) [⟨false, .ints .i64 2 g0⟩, ⟨false, .ints .u8 520 g1⟩]) g0 g1)
  | _, _, _ => none

theorem impl_Algebra_field.en_ok (N : Nat) (hE : EnvOk (E87 N) ents) (ρ : Type) (args : List AV) (sh : Heap) (K : AV → Heap → Option ρ) (r : ρ) (h : impl_Algebra_field.en N ρ args sh K = some r) : ∃ v sh', K v sh' = some r ∧ FnOk (E87 N).P 80 args sh v sh' := by
  unfold impl_Algebra_field.en at h
  split at h
  · exact fn_ok hE (kp := impl_Algebra_field.kp) (N := N) Go.Proofs.Try.func80 (c := impl_Algebra_field.bd) (by kernel_rfl) ((impl_Algebra_field.eq N _ _ _).trans h)
  · cases h

noncomputable def E88 (N : Nat) : Env := (E87 N).add 80 (impl_Algebra_field.en N)

theorem E88_ok (N : Nat) : EnvOk (E88 N) ents := Env.add_ok (E87_ok N) (impl_Algebra_field.en_ok N (E87_ok N))

noncomputable def impl_Algebra_product.kp : Keeps := ⟨[(0, [0, 4, 5, 6, 7, 8, 15, 16], 7), (2, [0, 4, 5, 6, 7, 8, 9, 15, 16, 24, 25], 7)], [(0, [6, 8], 7), (2, [0, 4, 5, 6, 7, 8, 15, 16], 7)]⟩

noncomputable def impl_Algebra_product.bd : Code := bodyOf Go.Proofs.Try.f137

noncomputable def impl_Algebra_product.fin {ρ : Type} (N : Nat) (K : AV → Heap → Option ρ) (g2 : Nat → Int) (g3 : Nat → Int) : XE → St → Option ρ := finK (E88 N) Go.Proofs.Try.f137 [⟨false, .ints .i64 2 g2⟩, ⟨false, .ints .u8 520 g3⟩] K

noncomputable def impl_Algebra_product.k0 {ρ : Type} (N : Nat) (K : AV → Heap → Option ρ) (g2 : Nat → Int) (g3 : Nat → Int) : XE → St → Option ρ := (blockK impl_Algebra_product.kp 2 0 (seqK (xcode (E88 N) ents impl_Algebra_product.kp 2 N (cB (cB (cB impl_Algebra_product.bd))) 0) (impl_Algebra_product.fin N K g2 g3)))

theorem impl_Algebra_product.k0_mix {ρ : Type} (N : Nat) (K : AV → Heap → Option ρ) (g2 : Nat → Int) (g3 : Nat → Int) : mixK (impl_Algebra_product.fin N K g2 g3 .ret) (impl_Algebra_product.k0 N K g2 g3) = (impl_Algebra_product.k0 N K g2 g3) := by
  funext e s; cases e <;> rfl

noncomputable def impl_Algebra_product.st0 (v0 : Nat → Int) (w1 : Nat → Int) (g2 : Nat → Int) (g3 : Nat → Int) (r4 : Nat → Int) (x5 : Int) (g6 : Nat → Int) : St := ⟨sl 50 [(0, .sptr [(0, 2), (1, 520)]), (4, .sptr [(2, 8)]), (5, .sptr [(3, 8)]), (6, .sptr [(4, 8)]), (7, .sptr [(5, 2)]), (8, .sptr [(6, 8)]), (15, .int .i64 ((r4 1))), (16, .int .i64 (x5))], [⟨false, .ints .i64 2 g2⟩, ⟨false, .ints .u8 520 g3⟩, ⟨true, .ints .u8 8 v0⟩, ⟨true, .ints .u8 8 w1⟩, ⟨true, .ints .u8 8 (fun _ => 0)⟩, ⟨true, .ints .i64 2 r4⟩, ⟨true, .ints .u8 8 g6⟩]⟩

noncomputable def impl_Algebra_product.sx0_0 (v0 : Nat → Int) (w1 : Nat → Int) (g2 : Nat → Int) (g3 : Nat → Int) (r4 : Nat → Int) (o11 : Nat → Int) : St := ⟨sl 50 [(6, .sptr [(4, 8)]), (8, .sptr [(6, 8)])], [⟨false, .ints .i64 2 g2⟩, ⟨false, .ints .u8 520 g3⟩, ⟨true, .ints .u8 8 v0⟩, ⟨true, .ints .u8 8 w1⟩, ⟨true, .ints .u8 8 (fun _ => 0)⟩, ⟨true, .ints .i64 2 r4⟩, ⟨true, .ints .u8 8 o11⟩]⟩

noncomputable def impl_Algebra_product.k1g {ρ : Type} (N : Nat) (L0 : St → Option ρ) (kv : XE → St → Option ρ) : XE → St → Option ρ := (blockK impl_Algebra_product.kp 2 2 (blockK impl_Algebra_product.kp 2 1 (seqK (xcode (E88 N) ents impl_Algebra_product.kp 2 N (cB (cB (cB (cL (cK (cB (cA (cB (cB impl_Algebra_product.bd))))))))) 0) (roundK impl_Algebra_product.kp 2 0 L0 kv))))

theorem impl_Algebra_product.k1_mix {ρ : Type} (N : Nat) (K : AV → Heap → Option ρ) (L0 : St → Option ρ) (g2 : Nat → Int) (g3 : Nat → Int) : mixK (impl_Algebra_product.fin N K g2 g3 .ret) (impl_Algebra_product.k1g N L0 (impl_Algebra_product.k0 N K g2 g3)) = (impl_Algebra_product.k1g N L0 (impl_Algebra_product.k0 N K g2 g3)) := by
  funext e s; cases e <;> rfl

noncomputable def impl_Algebra_product.st1 (v0 : Nat → Int) (w1 : Nat → Int) (g2 : Nat → Int) (g3 : Nat → Int) (r4 : Nat → Int) (x5 : Int) (x7 : Int) (g8 : Nat → Int) : St := ⟨sl 50 [(0, .sptr [(0, 2), (1, 520)]), (4, .sptr [(2, 8)]), (5, .sptr [(3, 8)]), (6, .sptr [(4, 8)]), (7, .sptr [(5, 2)]), (8, .sptr [(6, 8)]), (9, .int .i64 (x5)), (15, .int .i64 ((r4 1))), (16, .int .i64 (x5)), (24, .int .i64 ((r4 1))), (25, .int .i64 (x7))], [⟨false, .ints .i64 2 g2⟩, ⟨false, .ints .u8 520 g3⟩, ⟨true, .ints .u8 8 v0⟩, ⟨true, .ints .u8 8 w1⟩, ⟨true, .ints .u8 8 (fun _ => 0)⟩, ⟨true, .ints .i64 2 r4⟩, ⟨true, .ints .u8 8 g8⟩]⟩

noncomputable def impl_Algebra_product.sx1_0 (v0 : Nat → Int) (w1 : Nat → Int) (g2 : Nat → Int) (g3 : Nat → Int) (r4 : Nat → Int) (x5 : Int) (o10 : Nat → Int) : St := ⟨sl 50 [(0, .sptr [(0, 2), (1, 520)]), (4, .sptr [(2, 8)]), (5, .sptr [(3, 8)]), (6, .sptr [(4, 8)]), (7, .sptr [(5, 2)]), (8, .sptr [(6, 8)]), (15, .int .i64 ((r4 1))), (16, .int .i64 (x5))], [⟨false, .ints .i64 2 g2⟩, ⟨false, .ints .u8 520 g3⟩, ⟨true, .ints .u8 8 v0⟩, ⟨true, .ints .u8 8 w1⟩, ⟨true, .ints .u8 8 (fun _ => 0)⟩, ⟨true, .ints .i64 2 r4⟩, ⟨true, .ints .u8 8 o10⟩]⟩

theorem impl_Algebra_product.b1_gen {ρ : Type} (N : Nat) (K : AV → Heap → Option ρ) (L1 : St → Option ρ) (kv : XE → St → Option ρ) (v0 : Nat → Int) (w1 : Nat → Int) (g2 : Nat → Int) (g3 : Nat → Int) (r4 : Nat → Int) (x5 : Int) (x7 : Int) (g8 : Nat → Int) :
    xcode (E88 N) ents impl_Algebra_product.kp 2 N (cL (cK (cB (cB (cB (cK (cA (cB (cB (cL (cK (cB (cA (cB (cB impl_Algebra_product.bd))))))))))))))) 2 (impl_Algebra_product.st1 v0 w1 g2 g3 r4 x5 x7 g8) (roundK impl_Algebra_product.kp 2 2 L1 (mixK (impl_Algebra_product.fin N K g2 g3 .ret) kv)) = (impl_Algebra_product.b1 N (fun d0 => K (.agg [⟨.u8, 8, d0⟩]) [⟨false, .ints .i64 2 g2⟩, ⟨false, .ints .u8 520 g3⟩]) (fun x7 g8 => L1 (impl_Algebra_product.st1 v0 w1 g2 g3 r4 x5 x7 g8)) (fun o10 => kv (.exit 2) (impl_Algebra_product.sx1_0 v0 w1 g2 g3 r4 x5 o10)) v0 w1 g3 r4 x5 x7 g8) := by kernel_rfl

theorem impl_Algebra_product.b1_eq {ρ : Type} (N : Nat) (K : AV → Heap → Option ρ) (L0 : St → Option ρ) (L1 : St → Option ρ) (v0 : Nat → Int) (w1 : Nat → Int) (g2 : Nat → Int) (g3 : Nat → Int) (r4 : Nat → Int) (x5 : Int) (x7 : Int) (g8 : Nat → Int) :
    xcode (E88 N) ents impl_Algebra_product.kp 2 N (cL (cK (cB (cB (cB (cK (cA (cB (cB (cL (cK (cB (cA (cB (cB impl_Algebra_product.bd))))))))))))))) 2 (impl_Algebra_product.st1 v0 w1 g2 g3 r4 x5 x7 g8) (roundK impl_Algebra_product.kp 2 2 L1 (impl_Algebra_product.k1g N L0 (impl_Algebra_product.k0 N K g2 g3))) = (impl_Algebra_product.b1 N (fun d0 => K (.agg [⟨.u8, 8, d0⟩]) [⟨false, .ints .i64 2 g2⟩, ⟨false, .ints .u8 520 g3⟩]) (fun x7 g8 => L1 (impl_Algebra_product.st1 v0 w1 g2 g3 r4 x5 x7 g8)) (fun o10 => (impl_Algebra_product.k1g N L0 (impl_Algebra_product.k0 N K g2 g3)) (.exit 2) (impl_Algebra_product.sx1_0 v0 w1 g2 g3 r4 x5 o10)) v0 w1 g3 r4 x5 x7 g8) := by
  have h := impl_Algebra_product.b1_gen N K L1 (impl_Algebra_product.k1g N L0 (impl_Algebra_product.k0 N K g2 g3)) v0 w1 g2 g3 r4 x5 x7 g8
  rw [impl_Algebra_product.k1_mix] at h
  exact h

theorem impl_Algebra_product.a1_0_gen {ρ : Type} (N : Nat) (K : AV → Heap → Option ρ) (L0 : St → Option ρ) (kv : XE → St → Option ρ) (v0 : Nat → Int) (w1 : Nat → Int) (g2 : Nat → Int) (g3 : Nat → Int) (r4 : Nat → Int) (x5 : Int) (o10 : Nat → Int) :
    (impl_Algebra_product.k1g N L0 (mixK (impl_Algebra_product.fin N K g2 g3 .ret) kv)) (.exit 2) (impl_Algebra_product.sx1_0 v0 w1 g2 g3 r4 x5 o10) = (impl_Algebra_product.a1_0 N (fun d0 => K (.agg [⟨.u8, 8, d0⟩]) [⟨false, .ints .i64 2 g2⟩, ⟨false, .ints .u8 520 g3⟩]) (fun x5 g6 => L0 (impl_Algebra_product.st0 v0 w1 g2 g3 r4 x5 g6)) (fun o11 => kv (.exit 0) (impl_Algebra_product.sx0_0 v0 w1 g2 g3 r4 o11)) x5 o10) := by kernel_rfl

theorem impl_Algebra_product.a1_0_eq {ρ : Type} (N : Nat) (K : AV → Heap → Option ρ) (L0 : St → Option ρ) (v0 : Nat → Int) (w1 : Nat → Int) (g2 : Nat → Int) (g3 : Nat → Int) (r4 : Nat → Int) (x5 : Int) (o10 : Nat → Int) :
    (impl_Algebra_product.k1g N L0 (impl_Algebra_product.k0 N K g2 g3)) (.exit 2) (impl_Algebra_product.sx1_0 v0 w1 g2 g3 r4 x5 o10) = (impl_Algebra_product.a1_0 N (fun d0 => K (.agg [⟨.u8, 8, d0⟩]) [⟨false, .ints .i64 2 g2⟩, ⟨false, .ints .u8 520 g3⟩]) (fun x5 g6 => L0 (impl_Algebra_product.st0 v0 w1 g2 g3 r4 x5 g6)) (fun o11 => (impl_Algebra_product.k0 N K g2 g3) (.exit 0) (impl_Algebra_product.sx0_0 v0 w1 g2 g3 r4 o11)) x5 o10) := by
  have h := impl_Algebra_product.a1_0_gen N K L0 (impl_Algebra_product.k0 N K g2 g3) v0 w1 g2 g3 r4 x5 o10
  rw [impl_Algebra_product.k0_mix] at h
  exact h

theorem impl_Algebra_product.b0_gen {ρ : Type} (N : Nat) (K : AV → Heap → Option ρ) (L0 : St → Option ρ) (kv : XE → St → Option ρ) (v0 : Nat → Int) (w1 : Nat → Int) (g2 : Nat → Int) (g3 : Nat → Int) (r4 : Nat → Int) (x5 : Int) (g6 : Nat → Int) :
    xcode (E88 N) ents impl_Algebra_product.kp 2 N (cL (cK (cB (cA (cB (cB impl_Algebra_product.bd)))))) 0 (impl_Algebra_product.st0 v0 w1 g2 g3 r4 x5 g6) (roundK impl_Algebra_product.kp 2 0 L0 (mixK (impl_Algebra_product.fin N K g2 g3 .ret) kv)) = (impl_Algebra_product.b0 N (fun d0 => K (.agg [⟨.u8, 8, d0⟩]) [⟨false, .ints .i64 2 g2⟩, ⟨false, .ints .u8 520 g3⟩]) (fun x7 g8 => xloop (xcode (E88 N) ents impl_Algebra_product.kp 2 N (cL (cK (cB (cB (cB (cK (cA (cB (cB (cL (cK (cB (cA (cB (cB impl_Algebra_product.bd))))))))))))))) 2) impl_Algebra_product.kp 2 2 N (impl_Algebra_product.st1 v0 w1 g2 g3 r4 x5 x7 g8) (impl_Algebra_product.k1g N L0 (mixK (impl_Algebra_product.fin N K g2 g3 .ret) kv))) (fun x5 g6 => L0 (impl_Algebra_product.st0 v0 w1 g2 g3 r4 x5 g6)) (fun o11 => kv (.exit 0) (impl_Algebra_product.sx0_0 v0 w1 g2 g3 r4 o11)) v0 r4 x5 g6) := by kernel_rfl

theorem impl_Algebra_product.b0_eq {ρ : Type} (N : Nat) (K : AV → Heap → Option ρ) (L0 : St → Option ρ) (v0 : Nat → Int) (w1 : Nat → Int) (g2 : Nat → Int) (g3 : Nat → Int) (r4 : Nat → Int) (x5 : Int) (g6 : Nat → Int) :
    xcode (E88 N) ents impl_Algebra_product.kp 2 N (cL (cK (cB (cA (cB (cB impl_Algebra_product.bd)))))) 0 (impl_Algebra_product.st0 v0 w1 g2 g3 r4 x5 g6) (roundK impl_Algebra_product.kp 2 0 L0 (impl_Algebra_product.k0 N K g2 g3)) = (impl_Algebra_product.b0 N (fun d0 => K (.agg [⟨.u8, 8, d0⟩]) [⟨false, .ints .i64 2 g2⟩, ⟨false, .ints .u8 520 g3⟩]) (fun x7 g8 => xloop (xcode (E88 N) ents impl_Algebra_product.kp 2 N (cL (cK (cB (cB (cB (cK (cA (cB (cB (cL (cK (cB (cA (cB (cB impl_Algebra_product.bd))))))))))))))) 2) impl_Algebra_product.kp 2 2 N (impl_Algebra_product.st1 v0 w1 g2 g3 r4 x5 x7 g8) (impl_Algebra_product.k1g N L0 (impl_Algebra_product.k0 N K g2 g3))) (fun x5 g6 => L0 (impl_Algebra_product.st0 v0 w1 g2 g3 r4 x5 g6)) (fun o11 => (impl_Algebra_product.k0 N K g2 g3) (.exit 0) (impl_Algebra_product.sx0_0 v0 w1 g2 g3 r4 o11)) v0 r4 x5 g6) := by
  have h := impl_Algebra_product.b0_gen N K L0 (impl_Algebra_product.k0 N K g2 g3) v0 w1 g2 g3 r4 x5 g6
  rw [impl_Algebra_product.k0_mix] at h
  exact h

theorem impl_Algebra_product.a0_0_eq {ρ : Type} (N : Nat) (K : AV → Heap → Option ρ) (v0 : Nat → Int) (w1 : Nat → Int) (g2 : Nat → Int) (g3 : Nat → Int) (r4 : Nat → Int) (o11 : Nat → Int) :
    (impl_Algebra_product.k0 N K g2 g3) (.exit 0) (impl_Algebra_product.sx0_0 v0 w1 g2 g3 r4 o11) = (impl_Algebra_product.a0_0 N (fun d0 => K (.agg [⟨.u8, 8, d0⟩]) [⟨false, .ints .i64 2 g2⟩, ⟨false, .ints .u8 520 g3⟩]) o11) := by kernel_rfl

theorem impl_Algebra_product.l1_eq {ρ : Type} (N : Nat) (K : AV → Heap → Option ρ) (L0 : St → Option ρ) (v0 : Nat → Int) (w1 : Nat → Int) (g2 : Nat → Int) (g3 : Nat → Int) (r4 : Nat → Int) (x5 : Int) :
    ∀ (m : Nat) (x7 : Int) (g8 : Nat → Int), xloop (xcode (E88 N) ents impl_Algebra_product.kp 2 N (cL (cK (cB (cB (cB (cK (cA (cB (cB (cL (cK (cB (cA (cB (cB impl_Algebra_product.bd))))))))))))))) 2) impl_Algebra_product.kp 2 2 m (impl_Algebra_product.st1 v0 w1 g2 g3 r4 x5 x7 g8) (impl_Algebra_product.k1g N L0 (impl_Algebra_product.k0 N K g2 g3)) = (impl_Algebra_product.l1 N (fun d0 => K (.agg [⟨.u8, 8, d0⟩]) [⟨false, .ints .i64 2 g2⟩, ⟨false, .ints .u8 520 g3⟩]) v0 w1 g3 r4 x5 (fun o10 => (impl_Algebra_product.k1g N L0 (impl_Algebra_product.k0 N K g2 g3)) (.exit 2) (impl_Algebra_product.sx1_0 v0 w1 g2 g3 r4 x5 o10)) m x7 g8) := by
  intro m
  induction m with
  | zero => intros; rfl
  | succ m ih =>
    intro x7 g8
    refine (impl_Algebra_product.b1_eq N K L0 (fun s => xloop (xcode (E88 N) ents impl_Algebra_product.kp 2 N (cL (cK (cB (cB (cB (cK (cA (cB (cB (cL (cK (cB (cA (cB (cB impl_Algebra_product.bd))))))))))))))) 2) impl_Algebra_product.kp 2 2 m s (impl_Algebra_product.k1g N L0 (impl_Algebra_product.k0 N K g2 g3))) v0 w1 g2 g3 r4 x5 x7 g8).trans ?_
    simp only [ih]
    kernel_rfl

theorem impl_Algebra_product.l0_eq {ρ : Type} (N : Nat) (K : AV → Heap → Option ρ) (v0 : Nat → Int) (w1 : Nat → Int) (g2 : Nat → Int) (g3 : Nat → Int) (r4 : Nat → Int) :
    ∀ (m : Nat) (x5 : Int) (g6 : Nat → Int), xloop (xcode (E88 N) ents impl_Algebra_product.kp 2 N (cL (cK (cB (cA (cB (cB impl_Algebra_product.bd)))))) 0) impl_Algebra_product.kp 2 0 m (impl_Algebra_product.st0 v0 w1 g2 g3 r4 x5 g6) (impl_Algebra_product.k0 N K g2 g3) = (impl_Algebra_product.l0 N (fun d0 => K (.agg [⟨.u8, 8, d0⟩]) [⟨false, .ints .i64 2 g2⟩, ⟨false, .ints .u8 520 g3⟩]) v0 w1 g3 r4 (fun o11 => (impl_Algebra_product.k0 N K g2 g3) (.exit 0) (impl_Algebra_product.sx0_0 v0 w1 g2 g3 r4 o11)) m x5 g6) := by
  intro m
  induction m with
  | zero => intros; rfl
  | succ m ih =>
    intro x5 g6
    refine (impl_Algebra_product.b0_eq N K (fun s => xloop (xcode (E88 N) ents impl_Algebra_product.kp 2 N (cL (cK (cB (cA (cB (cB impl_Algebra_product.bd)))))) 0) impl_Algebra_product.kp 2 0 m s (impl_Algebra_product.k0 N K g2 g3)) v0 w1 g2 g3 r4 x5 g6).trans ?_
    simp only [ih, impl_Algebra_product.l1_eq, impl_Algebra_product.a1_0_eq]
    kernel_rfl

theorem impl_Algebra_product.s_eq {ρ : Type} (N : Nat) (K : AV → Heap → Option ρ) (v0 : Nat → Int) (w1 : Nat → Int) (g2 : Nat → Int) (g3 : Nat → Int) :
    xbody (E88 N) ents impl_Algebra_product.kp N Go.Proofs.Try.f137 impl_Algebra_product.bd [.sptr [(0, 2), (1, 520)], .agg [⟨.u8, 8, v0⟩], .agg [⟨.u8, 8, w1⟩]] [⟨false, .ints .i64 2 g2⟩, ⟨false, .ints .u8 520 g3⟩] K = (impl_Algebra_product.s N (fun d0 => K (.agg [⟨.u8, 8, d0⟩]) [⟨false, .ints .i64 2 g2⟩, ⟨false, .ints .u8 520 g3⟩]) (fun r4 x5 g6 => xloop (xcode (E88 N) ents impl_Algebra_product.kp 2 N (cL (cK (cB (cA (cB (cB impl_Algebra_product.bd)))))) 0) impl_Algebra_product.kp 2 0 N (impl_Algebra_product.st0 v0 w1 g2 g3 r4 x5 g6) (impl_Algebra_product.k0 N K g2 g3)) g2 g3) := by kernel_rfl

theorem impl_Algebra_product.eq {ρ : Type} (N : Nat) (K : AV → Heap → Option ρ) (v0 : Nat → Int) (w1 : Nat → Int) (g2 : Nat → Int) (g3 : Nat → Int) :
    xbody (E88 N) ents impl_Algebra_product.kp N Go.Proofs.Try.f137 impl_Algebra_product.bd [.sptr [(0, 2), (1, 520)], .agg [⟨.u8, 8, v0⟩], .agg [⟨.u8, 8, w1⟩]] [⟨false, .ints .i64 2 g2⟩, ⟨false, .ints .u8 520 g3⟩] K = (impl_Algebra_product N (fun d0 => K (.agg [⟨.u8, 8, d0⟩]) [⟨false, .ints .i64 2 g2⟩, ⟨false, .ints .u8 520 g3⟩]) v0 w1 g2 g3) := by
  refine (impl_Algebra_product.s_eq N K v0 w1 g2 g3).trans ?_
  simp only [impl_Algebra_product.l0_eq, impl_Algebra_product.a0_0_eq]
  kernel_rfl

noncomputable def impl_Algebra_product.en (N : Nat) (ρ : Type) : List AV → Heap → (AV → Heap → Option ρ) → Option ρ
  | [.sptr [(0, 2), (1, 520)], .agg [⟨.u8, 8, v0⟩], .agg [⟨.u8, 8, w1⟩]], [⟨false, .ints .i64 2 g2⟩, ⟨false, .ints .u8 520 g3⟩], K => (impl_Algebra_product N (fun d0 => K (.agg [⟨.u8, 8, d0⟩]) [⟨false, .ints .i64 2 g2⟩, ⟨false, .ints .u8 520 g3⟩]) v0 w1 g2 g3)
  | _, _, _ => none

theorem impl_Algebra_product.en_ok (N : Nat) (hE : EnvOk (E88 N) ents) (ρ : Type) (args : List AV) (sh : Heap) (K : AV → Heap → Option ρ) (r : ρ) (h : impl_Algebra_product.en N ρ args sh K = some r) : ∃ v sh', K v sh' = some r ∧ FnOk (E88 N).P 137 args sh v sh' := by
  unfold impl_Algebra_product.en at h
  split at h
  · exact fn_ok hE (kp := impl_Algebra_product.kp) (N := N) Go.Proofs.Try.func137 (c := impl_Algebra_product.bd) (by kernel_rfl) ((impl_Algebra_product.eq N _ _ _ _ _).trans h)
  · cases h

noncomputable def E89 (N : Nat) : Env := (E88 N).add 137 (impl_Algebra_product.en N)

theorem E89_ok (N : Nat) : EnvOk (E89 N) ents := Env.add_ok (E88_ok N) (impl_Algebra_product.en_ok N (E88_ok N))

noncomputable def impl_Algebra_fault.kp : Keeps := ⟨[(0, [0, 3, 11, 12], 2), (2, [0, 3, 4, 11, 12, 15, 16], 2), (4, [0, 3, 4, 5, 11, 12, 15, 16, 19, 20], 2)], [(0, [], 2), (2, [0, 3, 11, 12], 2), (4, [0, 3, 4, 11, 12, 15, 16], 2)]⟩

noncomputable def impl_Algebra_fault.bd : Code := bodyOf Go.Proofs.Try.f138

noncomputable def impl_Algebra_fault.fin {ρ : Type} (N : Nat) (K : AV → Heap → Option ρ) (g0 : Nat → Int) (g1 : Nat → Int) : XE → St → Option ρ := finK (E89 N) Go.Proofs.Try.f138 [⟨false, .ints .i64 2 g0⟩, ⟨false, .ints .u8 520 g1⟩] K

noncomputable def impl_Algebra_fault.k0 {ρ : Type} (N : Nat) (K : AV → Heap → Option ρ) (g0 : Nat → Int) (g1 : Nat → Int) : XE → St → Option ρ := (blockK impl_Algebra_fault.kp 2 0 (seqK (xcode (E89 N) ents impl_Algebra_fault.kp 2 N (cB (cB (cB impl_Algebra_fault.bd))) 0) (impl_Algebra_fault.fin N K g0 g1)))

theorem impl_Algebra_fault.k0_mix {ρ : Type} (N : Nat) (K : AV → Heap → Option ρ) (g0 : Nat → Int) (g1 : Nat → Int) : mixK (impl_Algebra_fault.fin N K g0 g1 .ret) (impl_Algebra_fault.k0 N K g0 g1) = (impl_Algebra_fault.k0 N K g0 g1) := by
  funext e s; cases e <;> rfl

noncomputable def impl_Algebra_fault.st0 (g0 : Nat → Int) (g1 : Nat → Int) (x2 : Int) : St := ⟨sl 55 [(0, .sptr [(0, 2), (1, 520)]), (3, .int .i64 ((g0 1))), (11, .int .i64 ((g0 1))), (12, .int .i64 (x2))], [⟨false, .ints .i64 2 g0⟩, ⟨false, .ints .u8 520 g1⟩]⟩

noncomputable def impl_Algebra_fault.sx0_0 (g0 : Nat → Int) (g1 : Nat → Int) : St := ⟨sl 55 [], [⟨false, .ints .i64 2 g0⟩, ⟨false, .ints .u8 520 g1⟩]⟩

noncomputable def impl_Algebra_fault.k1g {ρ : Type} (N : Nat) (L0 : St → Option ρ) (kv : XE → St → Option ρ) : XE → St → Option ρ := (blockK impl_Algebra_fault.kp 2 2 (blockK impl_Algebra_fault.kp 2 1 (seqK (xcode (E89 N) ents impl_Algebra_fault.kp 2 N (cB (cB (cB (cL (cK (cB (cA (cB (cB impl_Algebra_fault.bd))))))))) 0) (roundK impl_Algebra_fault.kp 2 0 L0 kv))))

theorem impl_Algebra_fault.k1_mix {ρ : Type} (N : Nat) (K : AV → Heap → Option ρ) (L0 : St → Option ρ) (g0 : Nat → Int) (g1 : Nat → Int) : mixK (impl_Algebra_fault.fin N K g0 g1 .ret) (impl_Algebra_fault.k1g N L0 (impl_Algebra_fault.k0 N K g0 g1)) = (impl_Algebra_fault.k1g N L0 (impl_Algebra_fault.k0 N K g0 g1)) := by
  funext e s; cases e <;> rfl

noncomputable def impl_Algebra_fault.st1 (g0 : Nat → Int) (g1 : Nat → Int) (x2 : Int) (x3 : Int) : St := ⟨sl 55 [(0, .sptr [(0, 2), (1, 520)]), (3, .int .i64 ((g0 1))), (4, .int .i64 (x2)), (11, .int .i64 ((g0 1))), (12, .int .i64 (x2)), (15, .int .i64 ((g0 1))), (16, .int .i64 (x3))], [⟨false, .ints .i64 2 g0⟩, ⟨false, .ints .u8 520 g1⟩]⟩

noncomputable def impl_Algebra_fault.sx1_0 (g0 : Nat → Int) (g1 : Nat → Int) (x2 : Int) : St := ⟨sl 55 [(0, .sptr [(0, 2), (1, 520)]), (3, .int .i64 ((g0 1))), (11, .int .i64 ((g0 1))), (12, .int .i64 (x2))], [⟨false, .ints .i64 2 g0⟩, ⟨false, .ints .u8 520 g1⟩]⟩

noncomputable def impl_Algebra_fault.k2g {ρ : Type} (N : Nat) (L1 : St → Option ρ) (kv : XE → St → Option ρ) : XE → St → Option ρ := (blockK impl_Algebra_fault.kp 2 4 (blockK impl_Algebra_fault.kp 2 3 (seqK (xcode (E89 N) ents impl_Algebra_fault.kp 2 N (cB (cB (cB (cL (cK (cB (cB (cK (cA (cB (cB (cL (cK (cB (cA (cB (cB impl_Algebra_fault.bd))))))))))))))))) 2) (roundK impl_Algebra_fault.kp 2 2 L1 kv))))

theorem impl_Algebra_fault.k2_mix {ρ : Type} (N : Nat) (K : AV → Heap → Option ρ) (L0 : St → Option ρ) (L1 : St → Option ρ) (g0 : Nat → Int) (g1 : Nat → Int) : mixK (impl_Algebra_fault.fin N K g0 g1 .ret) (impl_Algebra_fault.k2g N L1 (impl_Algebra_fault.k1g N L0 (impl_Algebra_fault.k0 N K g0 g1))) = (impl_Algebra_fault.k2g N L1 (impl_Algebra_fault.k1g N L0 (impl_Algebra_fault.k0 N K g0 g1))) := by
  funext e s; cases e <;> rfl

noncomputable def impl_Algebra_fault.st2 (g0 : Nat → Int) (g1 : Nat → Int) (x2 : Int) (x3 : Int) (x4 : Int) : St := ⟨sl 55 [(0, .sptr [(0, 2), (1, 520)]), (3, .int .i64 ((g0 1))), (4, .int .i64 (x2)), (5, .int .i64 (x3)), (11, .int .i64 ((g0 1))), (12, .int .i64 (x2)), (15, .int .i64 ((g0 1))), (16, .int .i64 (x3)), (19, .int .i64 ((g0 1))), (20, .int .i64 (x4))], [⟨false, .ints .i64 2 g0⟩, ⟨false, .ints .u8 520 g1⟩]⟩

noncomputable def impl_Algebra_fault.sx2_0 (g0 : Nat → Int) (g1 : Nat → Int) (x2 : Int) (x3 : Int) : St := ⟨sl 55 [(0, .sptr [(0, 2), (1, 520)]), (3, .int .i64 ((g0 1))), (4, .int .i64 (x2)), (11, .int .i64 ((g0 1))), (12, .int .i64 (x2)), (15, .int .i64 ((g0 1))), (16, .int .i64 (x3))], [⟨false, .ints .i64 2 g0⟩, ⟨false, .ints .u8 520 g1⟩]⟩

theorem impl_Algebra_fault.b2_gen {ρ : Type} (N : Nat) (K : AV → Heap → Option ρ) (L2 : St → Option ρ) (kv : XE → St → Option ρ) (g0 : Nat → Int) (g1 : Nat → Int) (x2 : Int) (x3 : Int) (x4 : Int) :
    xcode (E89 N) ents impl_Algebra_fault.kp 2 N (cL (cK (cB (cB (cK (cA (cB (cB (cL (cK (cB (cB (cK (cA (cB (cB (cL (cK (cB (cA (cB (cB impl_Algebra_fault.bd)))))))))))))))))))))) 4 (impl_Algebra_fault.st2 g0 g1 x2 x3 x4) (roundK impl_Algebra_fault.kp 2 4 L2 (mixK (impl_Algebra_fault.fin N K g0 g1 .ret) kv)) = (impl_Algebra_fault.b2 N (fun d0 d1 d2 => K (.slice 2 0 d0 (some d1) 1) [⟨false, .ints .i64 2 g0⟩, ⟨false, .ints .u8 520 g1⟩, ⟨true, .ints .i64 3 d2⟩]) (K (.nils) [⟨false, .ints .i64 2 g0⟩, ⟨false, .ints .u8 520 g1⟩]) (fun x4 => L2 (impl_Algebra_fault.st2 g0 g1 x2 x3 x4)) (kv (.exit 4) (impl_Algebra_fault.sx2_0 g0 g1 x2 x3)) g0 g1 x2 x3 x4) := by kernel_rfl

theorem impl_Algebra_fault.b2_eq {ρ : Type} (N : Nat) (K : AV → Heap → Option ρ) (L0 : St → Option ρ) (L1 : St → Option ρ) (L2 : St → Option ρ) (g0 : Nat → Int) (g1 : Nat → Int) (x2 : Int) (x3 : Int) (x4 : Int) :
    xcode (E89 N) ents impl_Algebra_fault.kp 2 N (cL (cK (cB (cB (cK (cA (cB (cB (cL (cK (cB (cB (cK (cA (cB (cB (cL (cK (cB (cA (cB (cB impl_Algebra_fault.bd)))))))))))))))))))))) 4 (impl_Algebra_fault.st2 g0 g1 x2 x3 x4) (roundK impl_Algebra_fault.kp 2 4 L2 (impl_Algebra_fault.k2g N L1 (impl_Algebra_fault.k1g N L0 (impl_Algebra_fault.k0 N K g0 g1)))) = (impl_Algebra_fault.b2 N (fun d0 d1 d2 => K (.slice 2 0 d0 (some d1) 1) [⟨false, .ints .i64 2 g0⟩, ⟨false, .ints .u8 520 g1⟩, ⟨true, .ints .i64 3 d2⟩]) (K (.nils) [⟨false, .ints .i64 2 g0⟩, ⟨false, .ints .u8 520 g1⟩]) (fun x4 => L2 (impl_Algebra_fault.st2 g0 g1 x2 x3 x4)) ((impl_Algebra_fault.k2g N L1 (impl_Algebra_fault.k1g N L0 (impl_Algebra_fault.k0 N K g0 g1))) (.exit 4) (impl_Algebra_fault.sx2_0 g0 g1 x2 x3)) g0 g1 x2 x3 x4) := by
  have h := impl_Algebra_fault.b2_gen N K L2 (impl_Algebra_fault.k2g N L1 (impl_Algebra_fault.k1g N L0 (impl_Algebra_fault.k0 N K g0 g1))) g0 g1 x2 x3 x4
  rw [impl_Algebra_fault.k2_mix] at h
  exact h

theorem impl_Algebra_fault.a2_0_gen {ρ : Type} (N : Nat) (K : AV → Heap → Option ρ) (L1 : St → Option ρ) (kv : XE → St → Option ρ) (g0 : Nat → Int) (g1 : Nat → Int) (x2 : Int) (x3 : Int) :
    (impl_Algebra_fault.k2g N L1 (mixK (impl_Algebra_fault.fin N K g0 g1 .ret) kv)) (.exit 4) (impl_Algebra_fault.sx2_0 g0 g1 x2 x3) = (impl_Algebra_fault.a2_0 N (fun d0 d1 d2 => K (.slice 2 0 d0 (some d1) 1) [⟨false, .ints .i64 2 g0⟩, ⟨false, .ints .u8 520 g1⟩, ⟨true, .ints .i64 3 d2⟩]) (K (.nils) [⟨false, .ints .i64 2 g0⟩, ⟨false, .ints .u8 520 g1⟩]) (fun x3 => L1 (impl_Algebra_fault.st1 g0 g1 x2 x3)) (kv (.exit 2) (impl_Algebra_fault.sx1_0 g0 g1 x2)) x3) := by kernel_rfl

theorem impl_Algebra_fault.a2_0_eq {ρ : Type} (N : Nat) (K : AV → Heap → Option ρ) (L0 : St → Option ρ) (L1 : St → Option ρ) (g0 : Nat → Int) (g1 : Nat → Int) (x2 : Int) (x3 : Int) :
    (impl_Algebra_fault.k2g N L1 (impl_Algebra_fault.k1g N L0 (impl_Algebra_fault.k0 N K g0 g1))) (.exit 4) (impl_Algebra_fault.sx2_0 g0 g1 x2 x3) = (impl_Algebra_fault.a2_0 N (fun d0 d1 d2 => K (.slice 2 0 d0 (some d1) 1) [⟨false, .ints .i64 2 g0⟩, ⟨false, .ints .u8 520 g1⟩, ⟨true, .ints .i64 3 d2⟩]) (K (.nils) [⟨false, .ints .i64 2 g0⟩, ⟨false, .ints .u8 520 g1⟩]) (fun x3 => L1 (impl_Algebra_fault.st1 g0 g1 x2 x3)) ((impl_Algebra_fault.k1g N L0 (impl_Algebra_fault.k0 N K g0 g1)) (.exit 2) (impl_Algebra_fault.sx1_0 g0 g1 x2)) x3) := by
  have h := impl_Algebra_fault.a2_0_gen N K L1 (impl_Algebra_fault.k1g N L0 (impl_Algebra_fault.k0 N K g0 g1)) g0 g1 x2 x3
  rw [impl_Algebra_fault.k1_mix] at h
  exact h

theorem impl_Algebra_fault.b1_gen {ρ : Type} (N : Nat) (K : AV → Heap → Option ρ) (L1 : St → Option ρ) (kv : XE → St → Option ρ) (g0 : Nat → Int) (g1 : Nat → Int) (x2 : Int) (x3 : Int) :
    xcode (E89 N) ents impl_Algebra_fault.kp 2 N (cL (cK (cB (cB (cK (cA (cB (cB (cL (cK (cB (cA (cB (cB impl_Algebra_fault.bd)))))))))))))) 2 (impl_Algebra_fault.st1 g0 g1 x2 x3) (roundK impl_Algebra_fault.kp 2 2 L1 (mixK (impl_Algebra_fault.fin N K g0 g1 .ret) kv)) = (impl_Algebra_fault.b1 N (fun d0 d1 d2 => K (.slice 2 0 d0 (some d1) 1) [⟨false, .ints .i64 2 g0⟩, ⟨false, .ints .u8 520 g1⟩, ⟨true, .ints .i64 3 d2⟩]) (K (.nils) [⟨false, .ints .i64 2 g0⟩, ⟨false, .ints .u8 520 g1⟩]) (fun x4 => xloop (xcode (E89 N) ents impl_Algebra_fault.kp 2 N (cL (cK (cB (cB (cK (cA (cB (cB (cL (cK (cB (cB (cK (cA (cB (cB (cL (cK (cB (cA (cB (cB impl_Algebra_fault.bd)))))))))))))))))))))) 4) impl_Algebra_fault.kp 2 4 N (impl_Algebra_fault.st2 g0 g1 x2 x3 x4) (impl_Algebra_fault.k2g N L1 (mixK (impl_Algebra_fault.fin N K g0 g1 .ret) kv))) (fun x3 => L1 (impl_Algebra_fault.st1 g0 g1 x2 x3)) (kv (.exit 2) (impl_Algebra_fault.sx1_0 g0 g1 x2)) g0 x3) := by kernel_rfl

theorem impl_Algebra_fault.b1_eq {ρ : Type} (N : Nat) (K : AV → Heap → Option ρ) (L0 : St → Option ρ) (L1 : St → Option ρ) (g0 : Nat → Int) (g1 : Nat → Int) (x2 : Int) (x3 : Int) :
    xcode (E89 N) ents impl_Algebra_fault.kp 2 N (cL (cK (cB (cB (cK (cA (cB (cB (cL (cK (cB (cA (cB (cB impl_Algebra_fault.bd)))))))))))))) 2 (impl_Algebra_fault.st1 g0 g1 x2 x3) (roundK impl_Algebra_fault.kp 2 2 L1 (impl_Algebra_fault.k1g N L0 (impl_Algebra_fault.k0 N K g0 g1))) = (impl_Algebra_fault.b1 N (fun d0 d1 d2 => K (.slice 2 0 d0 (some d1) 1) [⟨false, .ints .i64 2 g0⟩, ⟨false, .ints .u8 520 g1⟩, ⟨true, .ints .i64 3 d2⟩]) (K (.nils) [⟨false, .ints .i64 2 g0⟩, ⟨false, .ints .u8 520 g1⟩]) (fun x4 => xloop (xcode (E89 N) ents impl_Algebra_fault.kp 2 N (cL (cK (cB (cB (cK (cA (cB (cB (cL (cK (cB (cB (cK (cA (cB (cB (cL (cK (cB (cA (cB (cB impl_Algebra_fault.bd)))))))))))))))))))))) 4) impl_Algebra_fault.kp 2 4 N (impl_Algebra_fault.st2 g0 g1 x2 x3 x4) (impl_Algebra_fault.k2g N L1 (impl_Algebra_fault.k1g N L0 (impl_Algebra_fault.k0 N K g0 g1)))) (fun x3 => L1 (impl_Algebra_fault.st1 g0 g1 x2 x3)) ((impl_Algebra_fault.k1g N L0 (impl_Algebra_fault.k0 N K g0 g1)) (.exit 2) (impl_Algebra_fault.sx1_0 g0 g1 x2)) g0 x3) := by
  have h := impl_Algebra_fault.b1_gen N K L1 (impl_Algebra_fault.k1g N L0 (impl_Algebra_fault.k0 N K g0 g1)) g0 g1 x2 x3
  rw [impl_Algebra_fault.k1_mix] at h
  exact h

theorem impl_Algebra_fault.a1_0_gen {ρ : Type} (N : Nat) (K : AV → Heap → Option ρ) (L0 : St → Option ρ) (kv : XE → St → Option ρ) (g0 : Nat → Int) (g1 : Nat → Int) (x2 : Int) :
    (impl_Algebra_fault.k1g N L0 (mixK (impl_Algebra_fault.fin N K g0 g1 .ret) kv)) (.exit 2) (impl_Algebra_fault.sx1_0 g0 g1 x2) = (impl_Algebra_fault.a1_0 N (fun d0 d1 d2 => K (.slice 2 0 d0 (some d1) 1) [⟨false, .ints .i64 2 g0⟩, ⟨false, .ints .u8 520 g1⟩, ⟨true, .ints .i64 3 d2⟩]) (K (.nils) [⟨false, .ints .i64 2 g0⟩, ⟨false, .ints .u8 520 g1⟩]) (fun x2 => L0 (impl_Algebra_fault.st0 g0 g1 x2)) (kv (.exit 0) (impl_Algebra_fault.sx0_0 g0 g1)) x2) := by kernel_rfl

theorem impl_Algebra_fault.a1_0_eq {ρ : Type} (N : Nat) (K : AV → Heap → Option ρ) (L0 : St → Option ρ) (g0 : Nat → Int) (g1 : Nat → Int) (x2 : Int) :
    (impl_Algebra_fault.k1g N L0 (impl_Algebra_fault.k0 N K g0 g1)) (.exit 2) (impl_Algebra_fault.sx1_0 g0 g1 x2) = (impl_Algebra_fault.a1_0 N (fun d0 d1 d2 => K (.slice 2 0 d0 (some d1) 1) [⟨false, .ints .i64 2 g0⟩, ⟨false, .ints .u8 520 g1⟩, ⟨true, .ints .i64 3 d2⟩]) (K (.nils) [⟨false, .ints .i64 2 g0⟩, ⟨false, .ints .u8 520 g1⟩]) (fun x2 => L0 (impl_Algebra_fault.st0 g0 g1 x2)) ((impl_Algebra_fault.k0 N K g0 g1) (.exit 0) (impl_Algebra_fault.sx0_0 g0 g1)) x2) := by
  have h := impl_Algebra_fault.a1_0_gen N K L0 (impl_Algebra_fault.k0 N K g0 g1) g0 g1 x2
  rw [impl_Algebra_fault.k0_mix] at h
  exact h

theorem impl_Algebra_fault.b0_gen {ρ : Type} (N : Nat) (K : AV → Heap → Option ρ) (L0 : St → Option ρ) (kv : XE → St → Option ρ) (g0 : Nat → Int) (g1 : Nat → Int) (x2 : Int) :
    xcode (E89 N) ents impl_Algebra_fault.kp 2 N (cL (cK (cB (cA (cB (cB impl_Algebra_fault.bd)))))) 0 (impl_Algebra_fault.st0 g0 g1 x2) (roundK impl_Algebra_fault.kp 2 0 L0 (mixK (impl_Algebra_fault.fin N K g0 g1 .ret) kv)) = (impl_Algebra_fault.b0 N (fun d0 d1 d2 => K (.slice 2 0 d0 (some d1) 1) [⟨false, .ints .i64 2 g0⟩, ⟨false, .ints .u8 520 g1⟩, ⟨true, .ints .i64 3 d2⟩]) (K (.nils) [⟨false, .ints .i64 2 g0⟩, ⟨false, .ints .u8 520 g1⟩]) (fun x3 => xloop (xcode (E89 N) ents impl_Algebra_fault.kp 2 N (cL (cK (cB (cB (cK (cA (cB (cB (cL (cK (cB (cA (cB (cB impl_Algebra_fault.bd)))))))))))))) 2) impl_Algebra_fault.kp 2 2 N (impl_Algebra_fault.st1 g0 g1 x2 x3) (impl_Algebra_fault.k1g N L0 (mixK (impl_Algebra_fault.fin N K g0 g1 .ret) kv))) (fun x2 => L0 (impl_Algebra_fault.st0 g0 g1 x2)) (kv (.exit 0) (impl_Algebra_fault.sx0_0 g0 g1)) g0 x2) := by kernel_rfl

theorem impl_Algebra_fault.b0_eq {ρ : Type} (N : Nat) (K : AV → Heap → Option ρ) (L0 : St → Option ρ) (g0 : Nat → Int) (g1 : Nat → Int) (x2 : Int) :
    xcode (E89 N) ents impl_Algebra_fault.kp 2 N (cL (cK (cB (cA (cB (cB impl_Algebra_fault.bd)))))) 0 (impl_Algebra_fault.st0 g0 g1 x2) (roundK impl_Algebra_fault.kp 2 0 L0 (impl_Algebra_fault.k0 N K g0 g1)) = (impl_Algebra_fault.b0 N (fun d0 d1 d2 => K (.slice 2 0 d0 (some d1) 1) [⟨false, .ints .i64 2 g0⟩, ⟨false, .ints .u8 520 g1⟩, ⟨true, .ints .i64 3 d2⟩]) (K (.nils) [⟨false, .ints .i64 2 g0⟩, ⟨false, .ints .u8 520 g1⟩]) (fun x3 => xloop (xcode (E89 N) ents impl_Algebra_fault.kp 2 N (cL (cK (cB (cB (cK (cA (cB (cB (cL (cK (cB (cA (cB (cB impl_Algebra_fault.bd)))))))))))))) 2) impl_Algebra_fault.kp 2 2 N (impl_Algebra_fault.st1 g0 g1 x2 x3) (impl_Algebra_fault.k1g N L0 (impl_Algebra_fault.k0 N K g0 g1))) (fun x2 => L0 (impl_Algebra_fault.st0 g0 g1 x2)) ((impl_Algebra_fault.k0 N K g0 g1) (.exit 0) (impl_Algebra_fault.sx0_0 g0 g1)) g0 x2) := by
  have h := impl_Algebra_fault.b0_gen N K L0 (impl_Algebra_fault.k0 N K g0 g1) g0 g1 x2
  rw [impl_Algebra_fault.k0_mix] at h
  exact h

theorem impl_Algebra_fault.a0_0_eq {ρ : Type} (N : Nat) (K : AV → Heap → Option ρ) (g0 : Nat → Int) (g1 : Nat → Int) :
    (impl_Algebra_fault.k0 N K g0 g1) (.exit 0) (impl_Algebra_fault.sx0_0 g0 g1) = (impl_Algebra_fault.a0_0 N (fun d0 d1 d2 => K (.slice 2 0 d0 (some d1) 1) [⟨false, .ints .i64 2 g0⟩, ⟨false, .ints .u8 520 g1⟩, ⟨true, .ints .i64 3 d2⟩]) (K (.nils) [⟨false, .ints .i64 2 g0⟩, ⟨false, .ints .u8 520 g1⟩])) := by kernel_rfl

theorem impl_Algebra_fault.l2_eq {ρ : Type} (N : Nat) (K : AV → Heap → Option ρ) (L0 : St → Option ρ) (L1 : St → Option ρ) (g0 : Nat → Int) (g1 : Nat → Int) (x2 : Int) (x3 : Int) :
    ∀ (m : Nat) (x4 : Int), xloop (xcode (E89 N) ents impl_Algebra_fault.kp 2 N (cL (cK (cB (cB (cK (cA (cB (cB (cL (cK (cB (cB (cK (cA (cB (cB (cL (cK (cB (cA (cB (cB impl_Algebra_fault.bd)))))))))))))))))))))) 4) impl_Algebra_fault.kp 2 4 m (impl_Algebra_fault.st2 g0 g1 x2 x3 x4) (impl_Algebra_fault.k2g N L1 (impl_Algebra_fault.k1g N L0 (impl_Algebra_fault.k0 N K g0 g1))) = (impl_Algebra_fault.l2 N (fun d0 d1 d2 => K (.slice 2 0 d0 (some d1) 1) [⟨false, .ints .i64 2 g0⟩, ⟨false, .ints .u8 520 g1⟩, ⟨true, .ints .i64 3 d2⟩]) (K (.nils) [⟨false, .ints .i64 2 g0⟩, ⟨false, .ints .u8 520 g1⟩]) g0 g1 x2 x3 ((impl_Algebra_fault.k2g N L1 (impl_Algebra_fault.k1g N L0 (impl_Algebra_fault.k0 N K g0 g1))) (.exit 4) (impl_Algebra_fault.sx2_0 g0 g1 x2 x3)) m x4) := by
  intro m
  induction m with
  | zero => intros; rfl
  | succ m ih =>
    intro x4
    refine (impl_Algebra_fault.b2_eq N K L0 L1 (fun s => xloop (xcode (E89 N) ents impl_Algebra_fault.kp 2 N (cL (cK (cB (cB (cK (cA (cB (cB (cL (cK (cB (cB (cK (cA (cB (cB (cL (cK (cB (cA (cB (cB impl_Algebra_fault.bd)))))))))))))))))))))) 4) impl_Algebra_fault.kp 2 4 m s (impl_Algebra_fault.k2g N L1 (impl_Algebra_fault.k1g N L0 (impl_Algebra_fault.k0 N K g0 g1)))) g0 g1 x2 x3 x4).trans ?_
    simp only [ih]
    kernel_rfl

theorem impl_Algebra_fault.l1_eq {ρ : Type} (N : Nat) (K : AV → Heap → Option ρ) (L0 : St → Option ρ) (g0 : Nat → Int) (g1 : Nat → Int) (x2 : Int) :
    ∀ (m : Nat) (x3 : Int), xloop (xcode (E89 N) ents impl_Algebra_fault.kp 2 N (cL (cK (cB (cB (cK (cA (cB (cB (cL (cK (cB (cA (cB (cB impl_Algebra_fault.bd)))))))))))))) 2) impl_Algebra_fault.kp 2 2 m (impl_Algebra_fault.st1 g0 g1 x2 x3) (impl_Algebra_fault.k1g N L0 (impl_Algebra_fault.k0 N K g0 g1)) = (impl_Algebra_fault.l1 N (fun d0 d1 d2 => K (.slice 2 0 d0 (some d1) 1) [⟨false, .ints .i64 2 g0⟩, ⟨false, .ints .u8 520 g1⟩, ⟨true, .ints .i64 3 d2⟩]) (K (.nils) [⟨false, .ints .i64 2 g0⟩, ⟨false, .ints .u8 520 g1⟩]) g0 g1 x2 ((impl_Algebra_fault.k1g N L0 (impl_Algebra_fault.k0 N K g0 g1)) (.exit 2) (impl_Algebra_fault.sx1_0 g0 g1 x2)) m x3) := by
  intro m
  induction m with
  | zero => intros; rfl
  | succ m ih =>
    intro x3
    refine (impl_Algebra_fault.b1_eq N K L0 (fun s => xloop (xcode (E89 N) ents impl_Algebra_fault.kp 2 N (cL (cK (cB (cB (cK (cA (cB (cB (cL (cK (cB (cA (cB (cB impl_Algebra_fault.bd)))))))))))))) 2) impl_Algebra_fault.kp 2 2 m s (impl_Algebra_fault.k1g N L0 (impl_Algebra_fault.k0 N K g0 g1))) g0 g1 x2 x3).trans ?_
    simp only [ih, impl_Algebra_fault.l2_eq, impl_Algebra_fault.a2_0_eq]
    kernel_rfl

theorem impl_Algebra_fault.l0_eq {ρ : Type} (N : Nat) (K : AV → Heap → Option ρ) (g0 : Nat → Int) (g1 : Nat → Int) :
    ∀ (m : Nat) (x2 : Int), xloop (xcode (E89 N) ents impl_Algebra_fault.kp 2 N (cL (cK (cB (cA (cB (cB impl_Algebra_fault.bd)))))) 0) impl_Algebra_fault.kp 2 0 m (impl_Algebra_fault.st0 g0 g1 x2) (impl_Algebra_fault.k0 N K g0 g1) = (impl_Algebra_fault.l0 N (fun d0 d1 d2 => K (.slice 2 0 d0 (some d1) 1) [⟨false, .ints .i64 2 g0⟩, ⟨false, .ints .u8 520 g1⟩, ⟨true, .ints .i64 3 d2⟩]) (K (.nils) [⟨false, .ints .i64 2 g0⟩, ⟨false, .ints .u8 520 g1⟩]) g0 g1 ((impl_Algebra_fault.k0 N K g0 g1) (.exit 0) (impl_Algebra_fault.sx0_0 g0 g1)) m x2) := by
  intro m
  induction m with
  | zero => intros; rfl
  | succ m ih =>
    intro x2
    refine (impl_Algebra_fault.b0_eq N K (fun s => xloop (xcode (E89 N) ents impl_Algebra_fault.kp 2 N (cL (cK (cB (cA (cB (cB impl_Algebra_fault.bd)))))) 0) impl_Algebra_fault.kp 2 0 m s (impl_Algebra_fault.k0 N K g0 g1)) g0 g1 x2).trans ?_
    simp only [ih, impl_Algebra_fault.l1_eq, impl_Algebra_fault.a1_0_eq]
    kernel_rfl

theorem impl_Algebra_fault.s_eq {ρ : Type} (N : Nat) (K : AV → Heap → Option ρ) (g0 : Nat → Int) (g1 : Nat → Int) :
    xbody (E89 N) ents impl_Algebra_fault.kp N Go.Proofs.Try.f138 impl_Algebra_fault.bd [.sptr [(0, 2), (1, 520)]] [⟨false, .ints .i64 2 g0⟩, ⟨false, .ints .u8 520 g1⟩] K = (impl_Algebra_fault.s N (fun d0 d1 d2 => K (.slice 2 0 d0 (some d1) 1) [⟨false, .ints .i64 2 g0⟩, ⟨false, .ints .u8 520 g1⟩, ⟨true, .ints .i64 3 d2⟩]) (K (.nils) [⟨false, .ints .i64 2 g0⟩, ⟨false, .ints .u8 520 g1⟩]) (fun x2 => xloop (xcode (E89 N) ents impl_Algebra_fault.kp 2 N (cL (cK (cB (cA (cB (cB impl_Algebra_fault.bd)))))) 0) impl_Algebra_fault.kp 2 0 N (impl_Algebra_fault.st0 g0 g1 x2) (impl_Algebra_fault.k0 N K g0 g1))) := by kernel_rfl

theorem impl_Algebra_fault.eq {ρ : Type} (N : Nat) (K : AV → Heap → Option ρ) (g0 : Nat → Int) (g1 : Nat → Int) :
    xbody (E89 N) ents impl_Algebra_fault.kp N Go.Proofs.Try.f138 impl_Algebra_fault.bd [.sptr [(0, 2), (1, 520)]] [⟨false, .ints .i64 2 g0⟩, ⟨false, .ints .u8 520 g1⟩] K = (impl_Algebra_fault N (fun d0 d1 d2 => K (.slice 2 0 d0 (some d1) 1) [⟨false, .ints .i64 2 g0⟩, ⟨false, .ints .u8 520 g1⟩, ⟨true, .ints .i64 3 d2⟩]) (K (.nils) [⟨false, .ints .i64 2 g0⟩, ⟨false, .ints .u8 520 g1⟩]) g0 g1) := by
  refine (impl_Algebra_fault.s_eq N K g0 g1).trans ?_
  simp only [impl_Algebra_fault.l0_eq, impl_Algebra_fault.a0_0_eq]
  kernel_rfl

noncomputable def impl_Algebra_fault.en (N : Nat) (ρ : Type) : List AV → Heap → (AV → Heap → Option ρ) → Option ρ
  | [.sptr [(0, 2), (1, 520)]], [⟨false, .ints .i64 2 g0⟩, ⟨false, .ints .u8 520 g1⟩], K => (impl_Algebra_fault N (fun d0 d1 d2 => K (.slice 2 0 d0 (some d1) 1) [⟨false, .ints .i64 2 g0⟩, ⟨false, .ints .u8 520 g1⟩, ⟨true, .ints .i64 3 d2⟩]) (K (.nils) [⟨false, .ints .i64 2 g0⟩, ⟨false, .ints .u8 520 g1⟩]) g0 g1)
  | _, _, _ => none

theorem impl_Algebra_fault.en_ok (N : Nat) (hE : EnvOk (E89 N) ents) (ρ : Type) (args : List AV) (sh : Heap) (K : AV → Heap → Option ρ) (r : ρ) (h : impl_Algebra_fault.en N ρ args sh K = some r) : ∃ v sh', K v sh' = some r ∧ FnOk (E89 N).P 138 args sh v sh' := by
  unfold impl_Algebra_fault.en at h
  split at h
  · exact fn_ok hE (kp := impl_Algebra_fault.kp) (N := N) Go.Proofs.Try.func138 (c := impl_Algebra_fault.bd) (by kernel_rfl) ((impl_Algebra_fault.eq N _ _ _).trans h)
  · cases h

noncomputable def E90 (N : Nat) : Env := (E89 N).add 138 (impl_Algebra_fault.en N)

theorem E90_ok (N : Nat) : EnvOk (E90 N) ents := Env.add_ok (E89_ok N) (impl_Algebra_fault.en_ok N (E89_ok N))

noncomputable def impl_IsAlgebra.kp : Keeps := ⟨[(0, [1, 8, 9], 2)], [(0, [1], 2)]⟩

noncomputable def impl_IsAlgebra.bd : Code := bodyOf Go.Proofs.Try.f110

noncomputable def impl_IsAlgebra.fin {ρ : Type} (N : Nat) (K : AV → Heap → Option ρ) : XE → St → Option ρ := finK (E90 N) Go.Proofs.Try.f110 [] K

noncomputable def impl_IsAlgebra.k0 {ρ : Type} (N : Nat) (K : AV → Heap → Option ρ) : XE → St → Option ρ := (blockK impl_IsAlgebra.kp 0 0 (seqK (xcode (E90 N) ents impl_IsAlgebra.kp 0 N (cB (cB (cB impl_IsAlgebra.bd))) 0) (impl_IsAlgebra.fin N K)))

theorem impl_IsAlgebra.k0_mix {ρ : Type} (N : Nat) (K : AV → Heap → Option ρ) : mixK (impl_IsAlgebra.fin N K .ret) (impl_IsAlgebra.k0 N K) = (impl_IsAlgebra.k0 N K) := by
  funext e s; cases e <;> rfl

noncomputable def impl_IsAlgebra.st0 (a0 : Nat → Int) (a1 : Nat → Int) (x3 : Int) : St := ⟨sl 31 [(1, .sptr [(0, 2), (1, 520)]), (8, .int .i64 ((a0 1))), (9, .int .i64 (x3))], [⟨true, .ints .i64 2 a0⟩, ⟨true, .ints .u8 520 a1⟩]⟩

noncomputable def impl_IsAlgebra.sx0_0 (a0 : Nat → Int) (a1 : Nat → Int) : St := ⟨sl 31 [(1, .sptr [(0, 2), (1, 520)])], [⟨true, .ints .i64 2 a0⟩, ⟨true, .ints .u8 520 a1⟩]⟩

theorem impl_IsAlgebra.b0_gen {ρ : Type} (N : Nat) (K : AV → Heap → Option ρ) (L0 : St → Option ρ) (kv : XE → St → Option ρ) (a0 : Nat → Int) (a1 : Nat → Int) (x3 : Int) :
    xcode (E90 N) ents impl_IsAlgebra.kp 0 N (cL (cK (cB (cA (cB (cB impl_IsAlgebra.bd)))))) 0 (impl_IsAlgebra.st0 a0 a1 x3) (roundK impl_IsAlgebra.kp 0 0 L0 (mixK (impl_IsAlgebra.fin N K .ret) kv)) = (impl_IsAlgebra.b0 N (fun d0 => K (.bool (d0)) []) (fun x3 => L0 (impl_IsAlgebra.st0 a0 a1 x3)) (kv (.exit 0) (impl_IsAlgebra.sx0_0 a0 a1)) a0 a1 x3) := by kernel_rfl

theorem impl_IsAlgebra.b0_eq {ρ : Type} (N : Nat) (K : AV → Heap → Option ρ) (L0 : St → Option ρ) (a0 : Nat → Int) (a1 : Nat → Int) (x3 : Int) :
    xcode (E90 N) ents impl_IsAlgebra.kp 0 N (cL (cK (cB (cA (cB (cB impl_IsAlgebra.bd)))))) 0 (impl_IsAlgebra.st0 a0 a1 x3) (roundK impl_IsAlgebra.kp 0 0 L0 (impl_IsAlgebra.k0 N K)) = (impl_IsAlgebra.b0 N (fun d0 => K (.bool (d0)) []) (fun x3 => L0 (impl_IsAlgebra.st0 a0 a1 x3)) ((impl_IsAlgebra.k0 N K) (.exit 0) (impl_IsAlgebra.sx0_0 a0 a1)) a0 a1 x3) := by
  have h := impl_IsAlgebra.b0_gen N K L0 (impl_IsAlgebra.k0 N K) a0 a1 x3
  rw [impl_IsAlgebra.k0_mix] at h
  exact h

theorem impl_IsAlgebra.a0_0_eq {ρ : Type} (N : Nat) (K : AV → Heap → Option ρ) (a0 : Nat → Int) (a1 : Nat → Int) :
    (impl_IsAlgebra.k0 N K) (.exit 0) (impl_IsAlgebra.sx0_0 a0 a1) = (impl_IsAlgebra.a0_0 N (fun d0 => K (.bool (d0)) []) a0 a1) := by kernel_rfl

theorem impl_IsAlgebra.l0_eq {ρ : Type} (N : Nat) (K : AV → Heap → Option ρ) (a0 : Nat → Int) (a1 : Nat → Int) :
    ∀ (m : Nat) (x3 : Int), xloop (xcode (E90 N) ents impl_IsAlgebra.kp 0 N (cL (cK (cB (cA (cB (cB impl_IsAlgebra.bd)))))) 0) impl_IsAlgebra.kp 0 0 m (impl_IsAlgebra.st0 a0 a1 x3) (impl_IsAlgebra.k0 N K) = (impl_IsAlgebra.l0 N (fun d0 => K (.bool (d0)) []) a0 a1 ((impl_IsAlgebra.k0 N K) (.exit 0) (impl_IsAlgebra.sx0_0 a0 a1)) m x3) := by
  intro m
  induction m with
  | zero => intros; rfl
  | succ m ih =>
    intro x3
    refine (impl_IsAlgebra.b0_eq N K (fun s => xloop (xcode (E90 N) ents impl_IsAlgebra.kp 0 N (cL (cK (cB (cA (cB (cB impl_IsAlgebra.bd)))))) 0) impl_IsAlgebra.kp 0 0 m s (impl_IsAlgebra.k0 N K)) a0 a1 x3).trans ?_
    simp only [ih]
    kernel_rfl

theorem impl_IsAlgebra.s_eq {ρ : Type} (N : Nat) (K : AV → Heap → Option ρ) (a0 : Nat → Int) (a1 : Nat → Int) :
    xbody (E90 N) ents impl_IsAlgebra.kp N Go.Proofs.Try.f110 impl_IsAlgebra.bd [.agg [⟨.i64, 2, a0⟩, ⟨.u8, 520, a1⟩]] [] K = (impl_IsAlgebra.s N (fun d0 => K (.bool (d0)) []) (fun x3 => xloop (xcode (E90 N) ents impl_IsAlgebra.kp 0 N (cL (cK (cB (cA (cB (cB impl_IsAlgebra.bd)))))) 0) impl_IsAlgebra.kp 0 0 N (impl_IsAlgebra.st0 a0 a1 x3) (impl_IsAlgebra.k0 N K)) a0 a1) := by kernel_rfl

theorem impl_IsAlgebra.eq {ρ : Type} (N : Nat) (K : AV → Heap → Option ρ) (a0 : Nat → Int) (a1 : Nat → Int) :
    xbody (E90 N) ents impl_IsAlgebra.kp N Go.Proofs.Try.f110 impl_IsAlgebra.bd [.agg [⟨.i64, 2, a0⟩, ⟨.u8, 520, a1⟩]] [] K = (impl_IsAlgebra N (fun d0 => K (.bool (d0)) []) a0 a1) := by
  refine (impl_IsAlgebra.s_eq N K a0 a1).trans ?_
  simp only [impl_IsAlgebra.l0_eq, impl_IsAlgebra.a0_0_eq]
  kernel_rfl

noncomputable def impl_IsAlgebra.en (N : Nat) (ρ : Type) : List AV → Heap → (AV → Heap → Option ρ) → Option ρ
  | [.agg [⟨.i64, 2, a0⟩, ⟨.u8, 520, a1⟩]], [], K => (impl_IsAlgebra N (fun d0 => K (.bool (d0)) []) a0 a1)
  | _, _, _ => none

theorem impl_IsAlgebra.en_ok (N : Nat) (hE : EnvOk (E90 N) ents) (ρ : Type) (args : List AV) (sh : Heap) (K : AV → Heap → Option ρ) (r : ρ) (h : impl_IsAlgebra.en N ρ args sh K = some r) : ∃ v sh', K v sh' = some r ∧ FnOk (E90 N).P 110 args sh v sh' := by
  unfold impl_IsAlgebra.en at h
  split at h
  · exact fn_ok hE (kp := impl_IsAlgebra.kp) (N := N) Go.Proofs.Try.func110 (c := impl_IsAlgebra.bd) (by kernel_rfl) ((impl_IsAlgebra.eq N _ _ _).trans h)
  · cases h

noncomputable def E91 (N : Nat) : Env := (E90 N).add 110 (impl_IsAlgebra.en N)

theorem E91_ok (N : Nat) : EnvOk (E91 N) ents := Env.add_ok (E90_ok N) (impl_IsAlgebra.en_ok N (E90_ok N))

noncomputable def impl_first_s2.kp : Keeps := ⟨[(0, [5, 6, 7], 1)], [(0, [], 1)]⟩

noncomputable def impl_first_s2.bd : Code := bodyOf Go.Proofs.Try.f90

noncomputable def impl_first_s2.fin {ρ : Type} (N : Nat) (K : AV → Heap → Option ρ) (g2 : Nat → Int) : XE → St → Option ρ := finK (E91 N) Go.Proofs.Try.f90 [⟨false, .ints .i64 2 g2⟩] K

noncomputable def impl_first_s2.k0 {ρ : Type} (N : Nat) (K : AV → Heap → Option ρ) (g2 : Nat → Int) : XE → St → Option ρ := (blockK impl_first_s2.kp 1 0 (seqK (xcode (E91 N) ents impl_first_s2.kp 1 N (cB (cB impl_first_s2.bd)) 0) (impl_first_s2.fin N K g2)))

theorem impl_first_s2.k0_mix {ρ : Type} (N : Nat) (K : AV → Heap → Option ρ) (g2 : Nat → Int) : mixK (impl_first_s2.fin N K g2 .ret) (impl_first_s2.k0 N K g2) = (impl_first_s2.k0 N K g2) := by
  funext e s; cases e <;> rfl

noncomputable def impl_first_s2.st0 (codes0 : Nat) (codes1 : Nat) (g2 : Nat → Int) (x3 : Int) : St := ⟨sl 15 [(5, .slice 0 0 codes0 (some codes1) 1), (6, .int .i64 ((codes0 : Int))), (7, .int .i64 (x3))], [⟨false, .ints .i64 2 g2⟩]⟩

noncomputable def impl_first_s2.sx0_0 (g2 : Nat → Int) : St := ⟨sl 15 [], [⟨false, .ints .i64 2 g2⟩]⟩

theorem impl_first_s2.b0_gen {ρ : Type} (N : Nat) (K : AV → Heap → Option ρ) (L0 : St → Option ρ) (kv : XE → St → Option ρ) (codes0 : Nat) (codes1 : Nat) (g2 : Nat → Int) (x3 : Int) :
    xcode (E91 N) ents impl_first_s2.kp 1 N (cL (cK (cB (cA (cB impl_first_s2.bd))))) 0 (impl_first_s2.st0 codes0 codes1 g2 x3) (roundK impl_first_s2.kp 1 0 L0 (mixK (impl_first_s2.fin N K g2 .ret) kv)) = (impl_first_s2.b0 N (fun d0 => K (.int .i64 (d0)) [⟨false, .ints .i64 2 g2⟩]) (fun x3 => L0 (impl_first_s2.st0 codes0 codes1 g2 x3)) (kv (.exit 0) (impl_first_s2.sx0_0 g2)) codes0 g2 x3) := by kernel_rfl

theorem impl_first_s2.b0_eq {ρ : Type} (N : Nat) (K : AV → Heap → Option ρ) (L0 : St → Option ρ) (codes0 : Nat) (codes1 : Nat) (g2 : Nat → Int) (x3 : Int) :
    xcode (E91 N) ents impl_first_s2.kp 1 N (cL (cK (cB (cA (cB impl_first_s2.bd))))) 0 (impl_first_s2.st0 codes0 codes1 g2 x3) (roundK impl_first_s2.kp 1 0 L0 (impl_first_s2.k0 N K g2)) = (impl_first_s2.b0 N (fun d0 => K (.int .i64 (d0)) [⟨false, .ints .i64 2 g2⟩]) (fun x3 => L0 (impl_first_s2.st0 codes0 codes1 g2 x3)) ((impl_first_s2.k0 N K g2) (.exit 0) (impl_first_s2.sx0_0 g2)) codes0 g2 x3) := by
  have h := impl_first_s2.b0_gen N K L0 (impl_first_s2.k0 N K g2) codes0 codes1 g2 x3
  rw [impl_first_s2.k0_mix] at h
  exact h

theorem impl_first_s2.a0_0_eq {ρ : Type} (N : Nat) (K : AV → Heap → Option ρ) (g2 : Nat → Int) :
    (impl_first_s2.k0 N K g2) (.exit 0) (impl_first_s2.sx0_0 g2) = (impl_first_s2.a0_0 N (fun d0 => K (.int .i64 (d0)) [⟨false, .ints .i64 2 g2⟩])) := by kernel_rfl

theorem impl_first_s2.l0_eq {ρ : Type} (N : Nat) (K : AV → Heap → Option ρ) (codes0 : Nat) (codes1 : Nat) (g2 : Nat → Int) :
    ∀ (m : Nat) (x3 : Int), xloop (xcode (E91 N) ents impl_first_s2.kp 1 N (cL (cK (cB (cA (cB impl_first_s2.bd))))) 0) impl_first_s2.kp 1 0 m (impl_first_s2.st0 codes0 codes1 g2 x3) (impl_first_s2.k0 N K g2) = (impl_first_s2.l0 N (fun d0 => K (.int .i64 (d0)) [⟨false, .ints .i64 2 g2⟩]) codes0 g2 ((impl_first_s2.k0 N K g2) (.exit 0) (impl_first_s2.sx0_0 g2)) m x3) := by
  intro m
  induction m with
  | zero => intros; rfl
  | succ m ih =>
    intro x3
    refine (impl_first_s2.b0_eq N K (fun s => xloop (xcode (E91 N) ents impl_first_s2.kp 1 N (cL (cK (cB (cA (cB impl_first_s2.bd))))) 0) impl_first_s2.kp 1 0 m s (impl_first_s2.k0 N K g2)) codes0 codes1 g2 x3).trans ?_
    simp only [ih]
    kernel_rfl

theorem impl_first_s2.s_eq {ρ : Type} (N : Nat) (K : AV → Heap → Option ρ) (codes0 : Nat) (codes1 : Nat) (g2 : Nat → Int) :
    xbody (E91 N) ents impl_first_s2.kp N Go.Proofs.Try.f90 impl_first_s2.bd [.slice 0 0 codes0 (some codes1) 1] [⟨false, .ints .i64 2 g2⟩] K = (impl_first_s2.s N (fun d0 => K (.int .i64 (d0)) [⟨false, .ints .i64 2 g2⟩]) (fun x3 => xloop (xcode (E91 N) ents impl_first_s2.kp 1 N (cL (cK (cB (cA (cB impl_first_s2.bd))))) 0) impl_first_s2.kp 1 0 N (impl_first_s2.st0 codes0 codes1 g2 x3) (impl_first_s2.k0 N K g2))) := by kernel_rfl

theorem impl_first_s2.eq {ρ : Type} (N : Nat) (K : AV → Heap → Option ρ) (codes0 : Nat) (codes1 : Nat) (g2 : Nat → Int) :
    xbody (E91 N) ents impl_first_s2.kp N Go.Proofs.Try.f90 impl_first_s2.bd [.slice 0 0 codes0 (some codes1) 1] [⟨false, .ints .i64 2 g2⟩] K = (impl_first_s2 N (fun d0 => K (.int .i64 (d0)) [⟨false, .ints .i64 2 g2⟩]) codes0 codes1 g2) := by
  refine (impl_first_s2.s_eq N K codes0 codes1 g2).trans ?_
  simp only [impl_first_s2.l0_eq, impl_first_s2.a0_0_eq]
  kernel_rfl

noncomputable def impl_first_s2.en (N : Nat) (ρ : Type) : List AV → Heap → (AV → Heap → Option ρ) → Option ρ
  | [.slice 0 0 codes0 (some codes1) 1], [⟨false, .ints .i64 2 g2⟩], K => (impl_first_s2 N (fun d0 => K (.int .i64 (d0)) [⟨false, .ints .i64 2 g2⟩]) codes0 codes1 g2)
  | _, _, _ => none

theorem impl_first_s2.en_ok (N : Nat) (hE : EnvOk (E91 N) ents) (ρ : Type) (args : List AV) (sh : Heap) (K : AV → Heap → Option ρ) (r : ρ) (h : impl_first_s2.en N ρ args sh K = some r) : ∃ v sh', K v sh' = some r ∧ FnOk (E91 N).P 90 args sh v sh' := by
  unfold impl_first_s2.en at h
  split at h
  · exact fn_ok hE (kp := impl_first_s2.kp) (N := N) Go.Proofs.Try.func90 (c := impl_first_s2.bd) (by kernel_rfl) ((impl_first_s2.eq N _ _ _ _).trans h)
  · cases h

noncomputable def E92 (N : Nat) : Env := (E91 N).add 90 (impl_first_s2.en N)

theorem E92_ok (N : Nat) : EnvOk (E92 N) ents := Env.add_ok (E91_ok N) (impl_first_s2.en_ok N (E91_ok N))

noncomputable def impl_mapsCode_n.kp : Keeps := ⟨[(0, [0, 1, 7, 20, 21, 22], 4)], [(0, [0, 1, 7], 4)]⟩

noncomputable def impl_mapsCode_n.bd : Code := bodyOf Go.Proofs.Try.f79

noncomputable def impl_mapsCode_n.fin {ρ : Type} (N : Nat) (K : AV → Heap → Option ρ) (g0 : Nat → Int) (g1 : Nat → Int) (g2 : Nat → Int) (g3 : Nat → Int) : XE → St → Option ρ := finK (E92 N) Go.Proofs.Try.f79 [⟨false, .ints .i64 2 g0⟩, ⟨false, .ints .u8 520 g1⟩, ⟨false, .ints .i64 2 g2⟩, ⟨false, .ints .u8 520 g3⟩] K

noncomputable def impl_mapsCode_n.k0 {ρ : Type} (N : Nat) (K : AV → Heap → Option ρ) (g0 : Nat → Int) (g1 : Nat → Int) (g2 : Nat → Int) (g3 : Nat → Int) : XE → St → Option ρ := (blockK impl_mapsCode_n.kp 4 0 (seqK (xcode (E92 N) ents impl_mapsCode_n.kp 4 N (cB (cB (cB impl_mapsCode_n.bd))) 0) (impl_mapsCode_n.fin N K g0 g1 g2 g3)))

theorem impl_mapsCode_n.k0_mix {ρ : Type} (N : Nat) (K : AV → Heap → Option ρ) (g0 : Nat → Int) (g1 : Nat → Int) (g2 : Nat → Int) (g3 : Nat → Int) : mixK (impl_mapsCode_n.fin N K g0 g1 g2 g3 .ret) (impl_mapsCode_n.k0 N K g0 g1 g2 g3) = (impl_mapsCode_n.k0 N K g0 g1 g2 g3) := by
  funext e s; cases e <;> rfl

noncomputable def impl_mapsCode_n.st0 (g0 : Nat → Int) (g1 : Nat → Int) (g2 : Nat → Int) (g3 : Nat → Int) (r5 : Bool) : St := ⟨sl 58 [(0, .sptr [(0, 2), (1, 520)]), (1, .sptr [(2, 2), (3, 520)]), (7, .bool (r5)), (20, .nils), (21, .int .i64 0), (22, .int .i64 0)], [⟨false, .ints .i64 2 g0⟩, ⟨false, .ints .u8 520 g1⟩, ⟨false, .ints .i64 2 g2⟩, ⟨false, .ints .u8 520 g3⟩]⟩

noncomputable def impl_mapsCode_n.sx0_0 (g0 : Nat → Int) (g1 : Nat → Int) (g2 : Nat → Int) (g3 : Nat → Int) (r5 : Bool) : St := ⟨sl 58 [(0, .sptr [(0, 2), (1, 520)]), (1, .sptr [(2, 2), (3, 520)]), (7, .bool (r5))], [⟨false, .ints .i64 2 g0⟩, ⟨false, .ints .u8 520 g1⟩, ⟨false, .ints .i64 2 g2⟩, ⟨false, .ints .u8 520 g3⟩]⟩

noncomputable def impl_mapsCode_n.k1 {ρ : Type} (N : Nat) (K : AV → Heap → Option ρ) (g0 : Nat → Int) (g1 : Nat → Int) (g2 : Nat → Int) (g3 : Nat → Int) : XE → St → Option ρ := (blockK impl_mapsCode_n.kp 4 0 (seqK (xcode (E92 N) ents impl_mapsCode_n.kp 4 N (cB (cB (cB impl_mapsCode_n.bd))) 0) (impl_mapsCode_n.fin N K g0 g1 g2 g3)))

theorem impl_mapsCode_n.k1_mix {ρ : Type} (N : Nat) (K : AV → Heap → Option ρ) (g0 : Nat → Int) (g1 : Nat → Int) (g2 : Nat → Int) (g3 : Nat → Int) : mixK (impl_mapsCode_n.fin N K g0 g1 g2 g3 .ret) (impl_mapsCode_n.k1 N K g0 g1 g2 g3) = (impl_mapsCode_n.k1 N K g0 g1 g2 g3) := by
  funext e s; cases e <;> rfl

noncomputable def impl_mapsCode_n.st1 (g0 : Nat → Int) (g1 : Nat → Int) (g2 : Nat → Int) (g3 : Nat → Int) : St := ⟨sl 58 [(0, .sptr [(0, 2), (1, 520)]), (1, .sptr [(2, 2), (3, 520)]), (7, .bool false), (20, .nils), (21, .int .i64 0), (22, .int .i64 0)], [⟨false, .ints .i64 2 g0⟩, ⟨false, .ints .u8 520 g1⟩, ⟨false, .ints .i64 2 g2⟩, ⟨false, .ints .u8 520 g3⟩]⟩

noncomputable def impl_mapsCode_n.sx1_0 (g0 : Nat → Int) (g1 : Nat → Int) (g2 : Nat → Int) (g3 : Nat → Int) : St := ⟨sl 58 [(0, .sptr [(0, 2), (1, 520)]), (1, .sptr [(2, 2), (3, 520)]), (7, .bool false)], [⟨false, .ints .i64 2 g0⟩, ⟨false, .ints .u8 520 g1⟩, ⟨false, .ints .i64 2 g2⟩, ⟨false, .ints .u8 520 g3⟩]⟩

theorem impl_mapsCode_n.b0_gen {ρ : Type} (N : Nat) (K : AV → Heap → Option ρ) (L0 : St → Option ρ) (kv : XE → St → Option ρ) (g0 : Nat → Int) (g1 : Nat → Int) (g2 : Nat → Int) (g3 : Nat → Int) (r5 : Bool) :
    xcode (E92 N) ents impl_mapsCode_n.kp 4 N (cL (cK (cB (cA (cB (cB impl_mapsCode_n.bd)))))) 0 (impl_mapsCode_n.st0 g0 g1 g2 g3 r5) (roundK impl_mapsCode_n.kp 4 0 L0 (mixK (impl_mapsCode_n.fin N K g0 g1 g2 g3 .ret) kv)) = (impl_mapsCode_n.b0 N (fun d0 => K (.int .i64 (d0)) [⟨false, .ints .i64 2 g0⟩, ⟨false, .ints .u8 520 g1⟩, ⟨false, .ints .i64 2 g2⟩, ⟨false, .ints .u8 520 g3⟩]) (L0 (impl_mapsCode_n.st0 g0 g1 g2 g3 r5)) (kv (.exit 0) (impl_mapsCode_n.sx0_0 g0 g1 g2 g3 r5))) := by kernel_rfl

theorem impl_mapsCode_n.b0_eq {ρ : Type} (N : Nat) (K : AV → Heap → Option ρ) (L0 : St → Option ρ) (g0 : Nat → Int) (g1 : Nat → Int) (g2 : Nat → Int) (g3 : Nat → Int) (r5 : Bool) :
    xcode (E92 N) ents impl_mapsCode_n.kp 4 N (cL (cK (cB (cA (cB (cB impl_mapsCode_n.bd)))))) 0 (impl_mapsCode_n.st0 g0 g1 g2 g3 r5) (roundK impl_mapsCode_n.kp 4 0 L0 (impl_mapsCode_n.k0 N K g0 g1 g2 g3)) = (impl_mapsCode_n.b0 N (fun d0 => K (.int .i64 (d0)) [⟨false, .ints .i64 2 g0⟩, ⟨false, .ints .u8 520 g1⟩, ⟨false, .ints .i64 2 g2⟩, ⟨false, .ints .u8 520 g3⟩]) (L0 (impl_mapsCode_n.st0 g0 g1 g2 g3 r5)) ((impl_mapsCode_n.k0 N K g0 g1 g2 g3) (.exit 0) (impl_mapsCode_n.sx0_0 g0 g1 g2 g3 r5))) := by
  have h := impl_mapsCode_n.b0_gen N K L0 (impl_mapsCode_n.k0 N K g0 g1 g2 g3) g0 g1 g2 g3 r5
  rw [impl_mapsCode_n.k0_mix] at h
  exact h

theorem impl_mapsCode_n.a0_0_eq {ρ : Type} (N : Nat) (K : AV → Heap → Option ρ) (g0 : Nat → Int) (g1 : Nat → Int) (g2 : Nat → Int) (g3 : Nat → Int) (r5 : Bool) :
    (impl_mapsCode_n.k0 N K g0 g1 g2 g3) (.exit 0) (impl_mapsCode_n.sx0_0 g0 g1 g2 g3 r5) = (impl_mapsCode_n.a0_0 N (fun d0 => K (.int .i64 (d0)) [⟨false, .ints .i64 2 g0⟩, ⟨false, .ints .u8 520 g1⟩, ⟨false, .ints .i64 2 g2⟩, ⟨false, .ints .u8 520 g3⟩]) g0 g2 r5) := by kernel_rfl

theorem impl_mapsCode_n.b1_gen {ρ : Type} (N : Nat) (K : AV → Heap → Option ρ) (L1 : St → Option ρ) (kv : XE → St → Option ρ) (g0 : Nat → Int) (g1 : Nat → Int) (g2 : Nat → Int) (g3 : Nat → Int) :
    xcode (E92 N) ents impl_mapsCode_n.kp 4 N (cL (cK (cB (cA (cB (cB impl_mapsCode_n.bd)))))) 0 (impl_mapsCode_n.st1 g0 g1 g2 g3) (roundK impl_mapsCode_n.kp 4 0 L1 (mixK (impl_mapsCode_n.fin N K g0 g1 g2 g3 .ret) kv)) = (impl_mapsCode_n.b1 N (fun d0 => K (.int .i64 (d0)) [⟨false, .ints .i64 2 g0⟩, ⟨false, .ints .u8 520 g1⟩, ⟨false, .ints .i64 2 g2⟩, ⟨false, .ints .u8 520 g3⟩]) (L1 (impl_mapsCode_n.st1 g0 g1 g2 g3)) (kv (.exit 0) (impl_mapsCode_n.sx1_0 g0 g1 g2 g3))) := by kernel_rfl

theorem impl_mapsCode_n.b1_eq {ρ : Type} (N : Nat) (K : AV → Heap → Option ρ) (L1 : St → Option ρ) (g0 : Nat → Int) (g1 : Nat → Int) (g2 : Nat → Int) (g3 : Nat → Int) :
    xcode (E92 N) ents impl_mapsCode_n.kp 4 N (cL (cK (cB (cA (cB (cB impl_mapsCode_n.bd)))))) 0 (impl_mapsCode_n.st1 g0 g1 g2 g3) (roundK impl_mapsCode_n.kp 4 0 L1 (impl_mapsCode_n.k1 N K g0 g1 g2 g3)) = (impl_mapsCode_n.b1 N (fun d0 => K (.int .i64 (d0)) [⟨false, .ints .i64 2 g0⟩, ⟨false, .ints .u8 520 g1⟩, ⟨false, .ints .i64 2 g2⟩, ⟨false, .ints .u8 520 g3⟩]) (L1 (impl_mapsCode_n.st1 g0 g1 g2 g3)) ((impl_mapsCode_n.k1 N K g0 g1 g2 g3) (.exit 0) (impl_mapsCode_n.sx1_0 g0 g1 g2 g3))) := by
  have h := impl_mapsCode_n.b1_gen N K L1 (impl_mapsCode_n.k1 N K g0 g1 g2 g3) g0 g1 g2 g3
  rw [impl_mapsCode_n.k1_mix] at h
  exact h

theorem impl_mapsCode_n.a1_0_eq {ρ : Type} (N : Nat) (K : AV → Heap → Option ρ) (g0 : Nat → Int) (g1 : Nat → Int) (g2 : Nat → Int) (g3 : Nat → Int) :
    (impl_mapsCode_n.k1 N K g0 g1 g2 g3) (.exit 0) (impl_mapsCode_n.sx1_0 g0 g1 g2 g3) = (impl_mapsCode_n.a1_0 N (fun d0 => K (.int .i64 (d0)) [⟨false, .ints .i64 2 g0⟩, ⟨false, .ints .u8 520 g1⟩, ⟨false, .ints .i64 2 g2⟩, ⟨false, .ints .u8 520 g3⟩]) g0 g2) := by kernel_rfl

theorem impl_mapsCode_n.l0_eq {ρ : Type} (N : Nat) (K : AV → Heap → Option ρ) (g0 : Nat → Int) (g1 : Nat → Int) (g2 : Nat → Int) (g3 : Nat → Int) (r5 : Bool) :
    ∀ (m : Nat), xloop (xcode (E92 N) ents impl_mapsCode_n.kp 4 N (cL (cK (cB (cA (cB (cB impl_mapsCode_n.bd)))))) 0) impl_mapsCode_n.kp 4 0 m (impl_mapsCode_n.st0 g0 g1 g2 g3 r5) (impl_mapsCode_n.k0 N K g0 g1 g2 g3) = (impl_mapsCode_n.l0 N (fun d0 => K (.int .i64 (d0)) [⟨false, .ints .i64 2 g0⟩, ⟨false, .ints .u8 520 g1⟩, ⟨false, .ints .i64 2 g2⟩, ⟨false, .ints .u8 520 g3⟩]) ((impl_mapsCode_n.k0 N K g0 g1 g2 g3) (.exit 0) (impl_mapsCode_n.sx0_0 g0 g1 g2 g3 r5)) m) := by
  intro m
  induction m with
  | zero => intros; rfl
  | succ m ih =>
    refine (impl_mapsCode_n.b0_eq N K (fun s => xloop (xcode (E92 N) ents impl_mapsCode_n.kp 4 N (cL (cK (cB (cA (cB (cB impl_mapsCode_n.bd)))))) 0) impl_mapsCode_n.kp 4 0 m s (impl_mapsCode_n.k0 N K g0 g1 g2 g3)) g0 g1 g2 g3 r5).trans ?_
    simp only [ih]
    kernel_rfl

theorem impl_mapsCode_n.l1_eq {ρ : Type} (N : Nat) (K : AV → Heap → Option ρ) (g0 : Nat → Int) (g1 : Nat → Int) (g2 : Nat → Int) (g3 : Nat → Int) :
    ∀ (m : Nat), xloop (xcode (E92 N) ents impl_mapsCode_n.kp 4 N (cL (cK (cB (cA (cB (cB impl_mapsCode_n.bd)))))) 0) impl_mapsCode_n.kp 4 0 m (impl_mapsCode_n.st1 g0 g1 g2 g3) (impl_mapsCode_n.k1 N K g0 g1 g2 g3) = (impl_mapsCode_n.l1 N (fun d0 => K (.int .i64 (d0)) [⟨false, .ints .i64 2 g0⟩, ⟨false, .ints .u8 520 g1⟩, ⟨false, .ints .i64 2 g2⟩, ⟨false, .ints .u8 520 g3⟩]) ((impl_mapsCode_n.k1 N K g0 g1 g2 g3) (.exit 0) (impl_mapsCode_n.sx1_0 g0 g1 g2 g3)) m) := by
  intro m
  induction m with
  | zero => intros; rfl
  | succ m ih =>
    refine (impl_mapsCode_n.b1_eq N K (fun s => xloop (xcode (E92 N) ents impl_mapsCode_n.kp 4 N (cL (cK (cB (cA (cB (cB impl_mapsCode_n.bd)))))) 0) impl_mapsCode_n.kp 4 0 m s (impl_mapsCode_n.k1 N K g0 g1 g2 g3)) g0 g1 g2 g3).trans ?_
    simp only [ih]
    kernel_rfl

theorem impl_mapsCode_n.s_eq {ρ : Type} (N : Nat) (K : AV → Heap → Option ρ) (g0 : Nat → Int) (g1 : Nat → Int) (g2 : Nat → Int) (g3 : Nat → Int) :
    xbody (E92 N) ents impl_mapsCode_n.kp N Go.Proofs.Try.f79 impl_mapsCode_n.bd [.sptr [(0, 2), (1, 520)], .sptr [(2, 2), (3, 520)], .nils] [⟨false, .ints .i64 2 g0⟩, ⟨false, .ints .u8 520 g1⟩, ⟨false, .ints .i64 2 g2⟩, ⟨false, .ints .u8 520 g3⟩] K = (impl_mapsCode_n.s N (fun d0 => K (.int .i64 (d0)) [⟨false, .ints .i64 2 g0⟩, ⟨false, .ints .u8 520 g1⟩, ⟨false, .ints .i64 2 g2⟩, ⟨false, .ints .u8 520 g3⟩]) (fun r5 => xloop (xcode (E92 N) ents impl_mapsCode_n.kp 4 N (cL (cK (cB (cA (cB (cB impl_mapsCode_n.bd)))))) 0) impl_mapsCode_n.kp 4 0 N (impl_mapsCode_n.st0 g0 g1 g2 g3 r5) (impl_mapsCode_n.k0 N K g0 g1 g2 g3)) (xloop (xcode (E92 N) ents impl_mapsCode_n.kp 4 N (cL (cK (cB (cA (cB (cB impl_mapsCode_n.bd)))))) 0) impl_mapsCode_n.kp 4 0 N (impl_mapsCode_n.st1 g0 g1 g2 g3) (impl_mapsCode_n.k1 N K g0 g1 g2 g3)) g0 g1 g2 g3) := by kernel_rfl

theorem impl_mapsCode_n.eq {ρ : Type} (N : Nat) (K : AV → Heap → Option ρ) (g0 : Nat → Int) (g1 : Nat → Int) (g2 : Nat → Int) (g3 : Nat → Int) :
    xbody (E92 N) ents impl_mapsCode_n.kp N Go.Proofs.Try.f79 impl_mapsCode_n.bd [.sptr [(0, 2), (1, 520)], .sptr [(2, 2), (3, 520)], .nils] [⟨false, .ints .i64 2 g0⟩, ⟨false, .ints .u8 520 g1⟩, ⟨false, .ints .i64 2 g2⟩, ⟨false, .ints .u8 520 g3⟩] K = (impl_mapsCode_n N (fun d0 => K (.int .i64 (d0)) [⟨false, .ints .i64 2 g0⟩, ⟨false, .ints .u8 520 g1⟩, ⟨false, .ints .i64 2 g2⟩, ⟨false, .ints .u8 520 g3⟩]) g0 g1 g2 g3) := by
  refine (impl_mapsCode_n.s_eq N K g0 g1 g2 g3).trans ?_
  simp only [impl_mapsCode_n.l0_eq, impl_mapsCode_n.a0_0_eq, impl_mapsCode_n.l1_eq, impl_mapsCode_n.a1_0_eq]
  kernel_rfl

noncomputable def impl_mapsCode_n.en (N : Nat) (ρ : Type) : List AV → Heap → (AV → Heap → Option ρ) → Option ρ
  | [.sptr [(0, 2), (1, 520)], .sptr [(2, 2), (3, 520)], .nils], [⟨false, .ints .i64 2 g0⟩, ⟨false, .ints .u8 520 g1⟩, ⟨false, .ints .i64 2 g2⟩, ⟨false, .ints .u8 520 g3⟩], K => (impl_mapsCode_n N (fun d0 => K (.int .i64 (d0)) [⟨false, .ints .i64 2 g0⟩, ⟨false, .ints .u8 520 g1⟩, ⟨false, .ints .i64 2 g2⟩, ⟨false, .ints .u8 520 g3⟩]) g0 g1 g2 g3)
  | _, _, _ => none

theorem impl_mapsCode_n.en_ok (N : Nat) (hE : EnvOk (E92 N) ents) (ρ : Type) (args : List AV) (sh : Heap) (K : AV → Heap → Option ρ) (r : ρ) (h : impl_mapsCode_n.en N ρ args sh K = some r) : ∃ v sh', K v sh' = some r ∧ FnOk (E92 N).P 79 args sh v sh' := by
  unfold impl_mapsCode_n.en at h
  split at h
  · exact fn_ok hE (kp := impl_mapsCode_n.kp) (N := N) Go.Proofs.Try.func79 (c := impl_mapsCode_n.bd) (by kernel_rfl) ((impl_mapsCode_n.eq N _ _ _ _ _).trans h)
  · cases h

noncomputable def E93 (N : Nat) : Env := (E92 N).add 79 (impl_mapsCode_n.en N)

theorem E93_ok (N : Nat) : EnvOk (E93 N) ents := Env.add_ok (E92_ok N) (impl_mapsCode_n.en_ok N (E92_ok N))

noncomputable def impl_UnitMap.kp : Keeps := ⟨[(0, [3, 4, 7, 17, 18], 6)], [(0, [4, 7], 6)]⟩

noncomputable def impl_UnitMap.bd : Code := bodyOf Go.Proofs.Try.f43

noncomputable def impl_UnitMap.fin {ρ : Type} (N : Nat) (K : AV → Heap → Option ρ) : XE → St → Option ρ := finK (E93 N) Go.Proofs.Try.f43 [] K

noncomputable def impl_UnitMap.k0 {ρ : Type} (N : Nat) (K : AV → Heap → Option ρ) : XE → St → Option ρ := (blockK impl_UnitMap.kp 0 0 (seqK (xcode (E93 N) ents impl_UnitMap.kp 0 N (cB (cB (cB (cB impl_UnitMap.bd)))) 0) (impl_UnitMap.fin N K)))

theorem impl_UnitMap.k0_mix {ρ : Type} (N : Nat) (K : AV → Heap → Option ρ) : mixK (impl_UnitMap.fin N K .ret) (impl_UnitMap.k0 N K) = (impl_UnitMap.k0 N K) := by
  funext e s; cases e <;> rfl

noncomputable def impl_UnitMap.st0 (c0 : Nat → Int) (c1 : Nat → Int) (a2 : Nat → Int) (a3 : Nat → Int) (x5 : Int) (g6 : Nat → Int) : St := ⟨sl 32 [(3, .sptr [(2, 2), (3, 520)]), (4, .sptr [(4, 64)]), (7, .sptr [(5, 64)]), (17, .agg [⟨.u8, 8, (fun z => (c1 (0 + z)))⟩]), (18, .int .i64 (x5))], [⟨true, .ints .i64 2 c0⟩, ⟨true, .ints .u8 520 c1⟩, ⟨true, .ints .i64 2 a2⟩, ⟨true, .ints .u8 520 a3⟩, ⟨true, .ints .u8 64 (fun _ => 0)⟩, ⟨true, .ints .u8 64 g6⟩]⟩

noncomputable def impl_UnitMap.sx0_0 (c0 : Nat → Int) (c1 : Nat → Int) (a2 : Nat → Int) (a3 : Nat → Int) (o9 : Nat → Int) : St := ⟨sl 32 [(4, .sptr [(4, 64)]), (7, .sptr [(5, 64)])], [⟨true, .ints .i64 2 c0⟩, ⟨true, .ints .u8 520 c1⟩, ⟨true, .ints .i64 2 a2⟩, ⟨true, .ints .u8 520 a3⟩, ⟨true, .ints .u8 64 (fun _ => 0)⟩, ⟨true, .ints .u8 64 o9⟩]⟩

theorem impl_UnitMap.b0_gen {ρ : Type} (N : Nat) (K : AV → Heap → Option ρ) (L0 : St → Option ρ) (kv : XE → St → Option ρ) (c0 : Nat → Int) (c1 : Nat → Int) (a2 : Nat → Int) (a3 : Nat → Int) (x5 : Int) (g6 : Nat → Int) :
    xcode (E93 N) ents impl_UnitMap.kp 0 N (cL (cK (cB (cA (cB (cB (cB impl_UnitMap.bd))))))) 0 (impl_UnitMap.st0 c0 c1 a2 a3 x5 g6) (roundK impl_UnitMap.kp 0 0 L0 (mixK (impl_UnitMap.fin N K .ret) kv)) = (impl_UnitMap.b0 N (fun d0 d1 => K (.tup [.agg [⟨.u8, 64, d0⟩], .int .i64 (d1)]) []) (fun x5 g6 => L0 (impl_UnitMap.st0 c0 c1 a2 a3 x5 g6)) (fun o9 => kv (.exit 0) (impl_UnitMap.sx0_0 c0 c1 a2 a3 o9)) c1 a2 a3 x5 g6) := by kernel_rfl

theorem impl_UnitMap.b0_eq {ρ : Type} (N : Nat) (K : AV → Heap → Option ρ) (L0 : St → Option ρ) (c0 : Nat → Int) (c1 : Nat → Int) (a2 : Nat → Int) (a3 : Nat → Int) (x5 : Int) (g6 : Nat → Int) :
    xcode (E93 N) ents impl_UnitMap.kp 0 N (cL (cK (cB (cA (cB (cB (cB impl_UnitMap.bd))))))) 0 (impl_UnitMap.st0 c0 c1 a2 a3 x5 g6) (roundK impl_UnitMap.kp 0 0 L0 (impl_UnitMap.k0 N K)) = (impl_UnitMap.b0 N (fun d0 d1 => K (.tup [.agg [⟨.u8, 64, d0⟩], .int .i64 (d1)]) []) (fun x5 g6 => L0 (impl_UnitMap.st0 c0 c1 a2 a3 x5 g6)) (fun o9 => (impl_UnitMap.k0 N K) (.exit 0) (impl_UnitMap.sx0_0 c0 c1 a2 a3 o9)) c1 a2 a3 x5 g6) := by
  have h := impl_UnitMap.b0_gen N K L0 (impl_UnitMap.k0 N K) c0 c1 a2 a3 x5 g6
  rw [impl_UnitMap.k0_mix] at h
  exact h

theorem impl_UnitMap.a0_0_eq {ρ : Type} (N : Nat) (K : AV → Heap → Option ρ) (c0 : Nat → Int) (c1 : Nat → Int) (a2 : Nat → Int) (a3 : Nat → Int) (o9 : Nat → Int) :
    (impl_UnitMap.k0 N K) (.exit 0) (impl_UnitMap.sx0_0 c0 c1 a2 a3 o9) = (impl_UnitMap.a0_0 N (fun d0 d1 => K (.tup [.agg [⟨.u8, 64, d0⟩], .int .i64 (d1)]) []) o9) := by kernel_rfl

theorem impl_UnitMap.l0_eq {ρ : Type} (N : Nat) (K : AV → Heap → Option ρ) (c0 : Nat → Int) (c1 : Nat → Int) (a2 : Nat → Int) (a3 : Nat → Int) :
    ∀ (m : Nat) (x5 : Int) (g6 : Nat → Int), xloop (xcode (E93 N) ents impl_UnitMap.kp 0 N (cL (cK (cB (cA (cB (cB (cB impl_UnitMap.bd))))))) 0) impl_UnitMap.kp 0 0 m (impl_UnitMap.st0 c0 c1 a2 a3 x5 g6) (impl_UnitMap.k0 N K) = (impl_UnitMap.l0 N (fun d0 d1 => K (.tup [.agg [⟨.u8, 64, d0⟩], .int .i64 (d1)]) []) c1 a2 a3 (fun o9 => (impl_UnitMap.k0 N K) (.exit 0) (impl_UnitMap.sx0_0 c0 c1 a2 a3 o9)) m x5 g6) := by
  intro m
  induction m with
  | zero => intros; rfl
  | succ m ih =>
    intro x5 g6
    refine (impl_UnitMap.b0_eq N K (fun s => xloop (xcode (E93 N) ents impl_UnitMap.kp 0 N (cL (cK (cB (cA (cB (cB (cB impl_UnitMap.bd))))))) 0) impl_UnitMap.kp 0 0 m s (impl_UnitMap.k0 N K)) c0 c1 a2 a3 x5 g6).trans ?_
    simp only [ih]
    kernel_rfl

theorem impl_UnitMap.s_eq {ρ : Type} (N : Nat) (K : AV → Heap → Option ρ) (c0 : Nat → Int) (c1 : Nat → Int) (a2 : Nat → Int) (a3 : Nat → Int) :
    xbody (E93 N) ents impl_UnitMap.kp N Go.Proofs.Try.f43 impl_UnitMap.bd [.agg [⟨.i64, 2, c0⟩, ⟨.u8, 520, c1⟩], .agg [⟨.i64, 2, a2⟩, ⟨.u8, 520, a3⟩]] [] K = (impl_UnitMap.s N (fun d0 d1 => K (.tup [.agg [⟨.u8, 64, d0⟩], .int .i64 (d1)]) []) (fun x5 g6 => xloop (xcode (E93 N) ents impl_UnitMap.kp 0 N (cL (cK (cB (cA (cB (cB (cB impl_UnitMap.bd))))))) 0) impl_UnitMap.kp 0 0 N (impl_UnitMap.st0 c0 c1 a2 a3 x5 g6) (impl_UnitMap.k0 N K)) c0 c1 a2 a3) := by kernel_rfl

theorem impl_UnitMap.eq {ρ : Type} (N : Nat) (K : AV → Heap → Option ρ) (c0 : Nat → Int) (c1 : Nat → Int) (a2 : Nat → Int) (a3 : Nat → Int) :
    xbody (E93 N) ents impl_UnitMap.kp N Go.Proofs.Try.f43 impl_UnitMap.bd [.agg [⟨.i64, 2, c0⟩, ⟨.u8, 520, c1⟩], .agg [⟨.i64, 2, a2⟩, ⟨.u8, 520, a3⟩]] [] K = (impl_UnitMap N (fun d0 d1 => K (.tup [.agg [⟨.u8, 64, d0⟩], .int .i64 (d1)]) []) c0 c1 a2 a3) := by
  refine (impl_UnitMap.s_eq N K c0 c1 a2 a3).trans ?_
  simp only [impl_UnitMap.l0_eq, impl_UnitMap.a0_0_eq]
  kernel_rfl

noncomputable def impl_UnitMap.en (N : Nat) (ρ : Type) : List AV → Heap → (AV → Heap → Option ρ) → Option ρ
  | [.agg [⟨.i64, 2, c0⟩, ⟨.u8, 520, c1⟩], .agg [⟨.i64, 2, a2⟩, ⟨.u8, 520, a3⟩]], [], K => (impl_UnitMap N (fun d0 d1 => K (.tup [.agg [⟨.u8, 64, d0⟩], .int .i64 (d1)]) []) c0 c1 a2 a3)
  | _, _, _ => none

theorem impl_UnitMap.en_ok (N : Nat) (hE : EnvOk (E93 N) ents) (ρ : Type) (args : List AV) (sh : Heap) (K : AV → Heap → Option ρ) (r : ρ) (h : impl_UnitMap.en N ρ args sh K = some r) : ∃ v sh', K v sh' = some r ∧ FnOk (E93 N).P 43 args sh v sh' := by
  unfold impl_UnitMap.en at h
  split at h
  · exact fn_ok hE (kp := impl_UnitMap.kp) (N := N) Go.Proofs.Try.func43 (c := impl_UnitMap.bd) (by kernel_rfl) ((impl_UnitMap.eq N _ _ _ _ _).trans h)
  · cases h

noncomputable def E94 (N : Nat) : Env := (E93 N).add 43 (impl_UnitMap.en N)

theorem E94_ok (N : Nat) : EnvOk (E94 N) ents := Env.add_ok (E93_ok N) (impl_UnitMap.en_ok N (E93_ok N))

noncomputable def laws_FnExactUnitMap.kp : Keeps := ⟨[], []⟩

noncomputable def laws_FnExactUnitMap.bd : Code := bodyOf Go.Proofs.Try.f11

noncomputable def laws_FnExactUnitMap.fin {ρ : Type} (N : Nat) (K : AV → Heap → Option ρ) : XE → St → Option ρ := finK (E94 N) Go.Proofs.Try.f11 [] K

theorem laws_FnExactUnitMap.eq {ρ : Type} (N : Nat) (K : AV → Heap → Option ρ) (aC0 : Nat → Int) (aC1 : Nat → Int) (aA2 : Nat → Int) (aA3 : Nat → Int) :
    xbody (E94 N) ents laws_FnExactUnitMap.kp N Go.Proofs.Try.f11 laws_FnExactUnitMap.bd [.agg [⟨.i64, 2, aC0⟩, ⟨.u8, 520, aC1⟩], .agg [⟨.i64, 2, aA2⟩, ⟨.u8, 520, aA3⟩]] [] K = (laws_FnExactUnitMap N (fun d0 => K (.bool (d0)) []) aC0 aC1 aA2 aA3) := by kernel_rfl

noncomputable def laws_FnExactUnitMap.en (N : Nat) (ρ : Type) : List AV → Heap → (AV → Heap → Option ρ) → Option ρ
  | [.agg [⟨.i64, 2, aC0⟩, ⟨.u8, 520, aC1⟩], .agg [⟨.i64, 2, aA2⟩, ⟨.u8, 520, aA3⟩]], [], K => (laws_FnExactUnitMap N (fun d0 => K (.bool (d0)) []) aC0 aC1 aA2 aA3)
  | _, _, _ => none

theorem laws_FnExactUnitMap.en_ok (N : Nat) (hE : EnvOk (E94 N) ents) (ρ : Type) (args : List AV) (sh : Heap) (K : AV → Heap → Option ρ) (r : ρ) (h : laws_FnExactUnitMap.en N ρ args sh K = some r) : ∃ v sh', K v sh' = some r ∧ FnOk (E94 N).P 11 args sh v sh' := by
  unfold laws_FnExactUnitMap.en at h
  split at h
  · exact fn_ok hE (kp := laws_FnExactUnitMap.kp) (N := N) Go.Proofs.Try.func11 (c := laws_FnExactUnitMap.bd) (by kernel_rfl) ((laws_FnExactUnitMap.eq N _ _ _ _ _).trans h)
  · cases h

noncomputable def E95 (N : Nat) : Env := (E94 N).add 11 (laws_FnExactUnitMap.en N)

theorem E95_ok (N : Nat) : EnvOk (E95 N) ents := Env.add_ok (E94_ok N) (laws_FnExactUnitMap.en_ok N (E94_ok N))
end Go.Proofs.Ythecjjnieojjoaa.H
