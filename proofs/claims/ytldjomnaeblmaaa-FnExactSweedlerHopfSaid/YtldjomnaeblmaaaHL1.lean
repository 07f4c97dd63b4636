/- The program computes these functions. -/
import Derived.Test.YtldjomnaeblmaaaHL0
namespace Go.Proofs.Ytldjomnaeblmaaa.H
set_option linter.unusedVariables false
set_option linter.unusedSimpArgs false
open Go Go.RowKit Go.Proofs.Ytldjomnaeblmaaa.Hx
set_option linter.unusedVariables false
set_option maxRecDepth 100000
noncomputable def impl_signed.kp : Keeps := ⟨[(0, [4, 5, 6, 25, 26], 5), (2, [4, 5, 6, 7, 25, 26, 30, 31], 5), (4, [4, 5, 6, 11, 61, 62], 6), (6, [4, 5, 6, 11, 12, 13, 14, 61, 62, 78, 79, 80], 9)], [(0, [4, 5, 6], 5), (2, [4, 5, 6, 25, 26], 5), (4, [4, 5], 6), (6, [4, 5, 6, 11, 12, 13, 14, 61, 62], 9)]⟩

noncomputable def impl_signed.bd : Code := bodyOf Go.Proofs.Try.f10

noncomputable def impl_signed.fin {ρ : Type} (N : Nat) (K : AV → Heap → Option ρ) : XE → St → Option ρ := finK (E21 N) Go.Proofs.Try.f10 [] K

noncomputable def impl_signed.k0 {ρ : Type} (N : Nat) (K : AV → Heap → Option ρ) : XE → St → Option ρ := (blockK impl_signed.kp 0 0 (seqK (xcode (E21 N) ents impl_signed.kp 0 N (cB (cB (cB (cB impl_signed.bd)))) 0) (impl_signed.fin N K)))

theorem impl_signed.k0_mix {ρ : Type} (N : Nat) (K : AV → Heap → Option ρ) : mixK (impl_signed.fin N K .ret) (impl_signed.k0 N K) = (impl_signed.k0 N K) := by
  funext e s; cases e <;> rfl

noncomputable def impl_signed.st0 (p0 : Int) (size1 : Int) (r4 : Nat → Int) (x5 : Int) (g6 : Nat → Int) : St := ⟨sl 114 [(4, .sptr [(0, 2), (1, 1104)]), (5, .sptr [(2, 2), (3, 1104)]), (6, .sptr [(4, 2)]), (25, .int .i64 ((r4 1))), (26, .int .i64 (x5))], [⟨true, .ints .i64 2 (fun _ => 0)⟩, ⟨true, .ints .u8 1104 (fun _ => 0)⟩, ⟨true, .ints .i64 2 (upd (upd (fun _ => 0) 0 p0) 1 size1)⟩, ⟨true, .ints .u8 1104 g6⟩, ⟨true, .ints .i64 2 r4⟩]⟩

noncomputable def impl_signed.sx0_0 (p0 : Int) (size1 : Int) (r4 : Nat → Int) (o14 : Nat → Int) : St := ⟨sl 114 [(4, .sptr [(0, 2), (1, 1104)]), (5, .sptr [(2, 2), (3, 1104)]), (6, .sptr [(4, 2)])], [⟨true, .ints .i64 2 (fun _ => 0)⟩, ⟨true, .ints .u8 1104 (fun _ => 0)⟩, ⟨true, .ints .i64 2 (upd (upd (fun _ => 0) 0 p0) 1 size1)⟩, ⟨true, .ints .u8 1104 o14⟩, ⟨true, .ints .i64 2 r4⟩]⟩

noncomputable def impl_signed.k1g {ρ : Type} (N : Nat) (L0 : St → Option ρ) (kv : XE → St → Option ρ) : XE → St → Option ρ := (blockK impl_signed.kp 0 2 (blockK impl_signed.kp 0 1 (seqK (xcode (E21 N) ents impl_signed.kp 0 N (cB (cB (cB (cL (cK (cB (cA (cB (cB (cB impl_signed.bd)))))))))) 0) (roundK impl_signed.kp 0 0 L0 kv))))

theorem impl_signed.k1_mix {ρ : Type} (N : Nat) (K : AV → Heap → Option ρ) (L0 : St → Option ρ) : mixK (impl_signed.fin N K .ret) (impl_signed.k1g N L0 (impl_signed.k0 N K)) = (impl_signed.k1g N L0 (impl_signed.k0 N K)) := by
  funext e s; cases e <;> rfl

noncomputable def impl_signed.st1 (p0 : Int) (size1 : Int) (r4 : Nat → Int) (x5 : Int) (x7 : Int) (g8 : Nat → Int) : St := ⟨sl 114 [(4, .sptr [(0, 2), (1, 1104)]), (5, .sptr [(2, 2), (3, 1104)]), (6, .sptr [(4, 2)]), (7, .int .i64 (x5)), (25, .int .i64 ((r4 1))), (26, .int .i64 (x5)), (30, .int .i64 ((r4 1))), (31, .int .i64 (x7))], [⟨true, .ints .i64 2 (fun _ => 0)⟩, ⟨true, .ints .u8 1104 (fun _ => 0)⟩, ⟨true, .ints .i64 2 (upd (upd (fun _ => 0) 0 p0) 1 size1)⟩, ⟨true, .ints .u8 1104 g8⟩, ⟨true, .ints .i64 2 r4⟩]⟩

noncomputable def impl_signed.sx1_0 (p0 : Int) (size1 : Int) (r4 : Nat → Int) (x5 : Int) (o13 : Nat → Int) : St := ⟨sl 114 [(4, .sptr [(0, 2), (1, 1104)]), (5, .sptr [(2, 2), (3, 1104)]), (6, .sptr [(4, 2)]), (25, .int .i64 ((r4 1))), (26, .int .i64 (x5))], [⟨true, .ints .i64 2 (fun _ => 0)⟩, ⟨true, .ints .u8 1104 (fun _ => 0)⟩, ⟨true, .ints .i64 2 (upd (upd (fun _ => 0) 0 p0) 1 size1)⟩, ⟨true, .ints .u8 1104 o13⟩, ⟨true, .ints .i64 2 r4⟩]⟩

noncomputable def impl_signed.k2 {ρ : Type} (N : Nat) (K : AV → Heap → Option ρ) : XE → St → Option ρ := (blockK impl_signed.kp 0 4 (seqK (xcode (E21 N) ents impl_signed.kp 0 N (cB (cB (cB (cB (cB (cB (cB impl_signed.bd))))))) 0) (impl_signed.fin N K)))

theorem impl_signed.k2_mix {ρ : Type} (N : Nat) (K : AV → Heap → Option ρ) : mixK (impl_signed.fin N K .ret) (impl_signed.k2 N K) = (impl_signed.k2 N K) := by
  funext e s; cases e <;> rfl

noncomputable def impl_signed.st2 (p0 : Int) (size1 : Int) (r4 : Nat → Int) (r17 : Nat → Int) (x18 : Int) (g19 : Nat → Int) : St := ⟨sl 114 [(4, .sptr [(0, 2), (1, 1104)]), (5, .sptr [(2, 2), (3, 1104)]), (6, .sptr [(4, 2)]), (11, .sptr [(5, 64)]), (61, .int .i64 ((r4 1))), (62, .int .i64 (x18))], [⟨true, .ints .i64 2 (fun _ => 0)⟩, ⟨true, .ints .u8 1104 (fun _ => 0)⟩, ⟨true, .ints .i64 2 (upd (upd (fun _ => 0) 0 p0) 1 size1)⟩, ⟨true, .ints .u8 1104 g19⟩, ⟨true, .ints .i64 2 r4⟩, ⟨true, .ints .u8 64 r17⟩]⟩

noncomputable def impl_signed.sx2_0 (p0 : Int) (size1 : Int) (r4 : Nat → Int) (r17 : Nat → Int) (o41 : Nat → Int) : St := ⟨sl 114 [(4, .sptr [(0, 2), (1, 1104)]), (5, .sptr [(2, 2), (3, 1104)])], [⟨true, .ints .i64 2 (fun _ => 0)⟩, ⟨true, .ints .u8 1104 (fun _ => 0)⟩, ⟨true, .ints .i64 2 (upd (upd (fun _ => 0) 0 p0) 1 size1)⟩, ⟨true, .ints .u8 1104 o41⟩, ⟨true, .ints .i64 2 r4⟩, ⟨true, .ints .u8 64 r17⟩]⟩

noncomputable def impl_signed.k3g {ρ : Type} (N : Nat) (L2 : St → Option ρ) (kv : XE → St → Option ρ) : XE → St → Option ρ := (blockK impl_signed.kp 0 6 (seqK (xcode (E21 N) ents impl_signed.kp 0 N (cB (cB (cB (cB (cK (cA (cB (cB (cL (cK (cB (cA (cB (cB (cB (cB (cB (cB impl_signed.bd)))))))))))))))))) 5) (blockK impl_signed.kp 0 5 (seqK (xcode (E21 N) ents impl_signed.kp 0 N (cB (cB (cB (cL (cK (cB (cA (cB (cB (cB (cB (cB (cB impl_signed.bd))))))))))))) 4) (roundK impl_signed.kp 0 4 L2 kv)))))

theorem impl_signed.k3_mix {ρ : Type} (N : Nat) (K : AV → Heap → Option ρ) (L2 : St → Option ρ) : mixK (impl_signed.fin N K .ret) (impl_signed.k3g N L2 (impl_signed.k2 N K)) = (impl_signed.k3g N L2 (impl_signed.k2 N K)) := by
  funext e s; cases e <;> rfl

noncomputable def impl_signed.st3 (p0 : Int) (size1 : Int) (r4 : Nat → Int) (r17 : Nat → Int) (x18 : Int) (g19 : Nat → Int) (x23 : Int) (g24 : Nat → Int) (g25 : Nat → Int) : St := ⟨sl 114 [(4, .sptr [(0, 2), (1, 1104)]), (5, .sptr [(2, 2), (3, 1104)]), (6, .sptr [(4, 2)]), (11, .sptr [(5, 64)]), (12, .int .i64 (x18)), (13, .sptr [(6, 64)]), (14, .sptr [(7, 8)]), (61, .int .i64 ((r4 1))), (62, .int .i64 (x18)), (78, .slice 8 0 2 (some 2) 1), (79, .int .i64 2), (80, .int .i64 (x23))], [⟨true, .ints .i64 2 (fun _ => 0)⟩, ⟨true, .ints .u8 1104 (fun _ => 0)⟩, ⟨true, .ints .i64 2 (upd (upd (fun _ => 0) 0 p0) 1 size1)⟩, ⟨true, .ints .u8 1104 g19⟩, ⟨true, .ints .i64 2 r4⟩, ⟨true, .ints .u8 64 r17⟩, ⟨true, .ints .u8 64 g24⟩, ⟨true, .ints .u8 8 g25⟩, ⟨true, .ints .i64 2 (upd (upd (fun _ => 0) 0 2) 1 4)⟩]⟩

noncomputable def impl_signed.sx3_0 (p0 : Int) (size1 : Int) (r4 : Nat → Int) (r17 : Nat → Int) (x18 : Int) (g19 : Nat → Int) (o30 : Nat → Int) (o31 : Nat → Int) : St := ⟨sl 114 [(4, .sptr [(0, 2), (1, 1104)]), (5, .sptr [(2, 2), (3, 1104)]), (6, .sptr [(4, 2)]), (11, .sptr [(5, 64)]), (12, .int .i64 (x18)), (13, .sptr [(6, 64)]), (14, .sptr [(7, 8)]), (61, .int .i64 ((r4 1))), (62, .int .i64 (x18))], [⟨true, .ints .i64 2 (fun _ => 0)⟩, ⟨true, .ints .u8 1104 (fun _ => 0)⟩, ⟨true, .ints .i64 2 (upd (upd (fun _ => 0) 0 p0) 1 size1)⟩, ⟨true, .ints .u8 1104 g19⟩, ⟨true, .ints .i64 2 r4⟩, ⟨true, .ints .u8 64 r17⟩, ⟨true, .ints .u8 64 o30⟩, ⟨true, .ints .u8 8 o31⟩, ⟨true, .ints .i64 2 (upd (upd (fun _ => 0) 0 2) 1 4)⟩]⟩

noncomputable def impl_signed.k4g {ρ : Type} (N : Nat) (L2 : St → Option ρ) (kv : XE → St → Option ρ) : XE → St → Option ρ := (blockK impl_signed.kp 0 6 (seqK (xcode (E21 N) ents impl_signed.kp 0 N (cB (cB (cB (cB (cK (cA (cB (cB (cL (cK (cB (cA (cB (cB (cB (cB (cB (cB impl_signed.bd)))))))))))))))))) 5) (blockK impl_signed.kp 0 5 (seqK (xcode (E21 N) ents impl_signed.kp 0 N (cB (cB (cB (cL (cK (cB (cA (cB (cB (cB (cB (cB (cB impl_signed.bd))))))))))))) 4) (roundK impl_signed.kp 0 4 L2 kv)))))

theorem impl_signed.k4_mix {ρ : Type} (N : Nat) (K : AV → Heap → Option ρ) (L2 : St → Option ρ) : mixK (impl_signed.fin N K .ret) (impl_signed.k4g N L2 (impl_signed.k2 N K)) = (impl_signed.k4g N L2 (impl_signed.k2 N K)) := by
  funext e s; cases e <;> rfl

noncomputable def impl_signed.st4 (p0 : Int) (size1 : Int) (r4 : Nat → Int) (r17 : Nat → Int) (x18 : Int) (g19 : Nat → Int) (x32 : Int) (g33 : Nat → Int) (g34 : Nat → Int) : St := ⟨sl 114 [(4, .sptr [(0, 2), (1, 1104)]), (5, .sptr [(2, 2), (3, 1104)]), (6, .sptr [(4, 2)]), (11, .sptr [(5, 64)]), (12, .int .i64 (x18)), (13, .sptr [(6, 64)]), (14, .sptr [(7, 8)]), (61, .int .i64 ((r4 1))), (62, .int .i64 (x18)), (78, .slice 8 0 2 (some 2) 1), (79, .int .i64 2), (80, .int .i64 (x32))], [⟨true, .ints .i64 2 (fun _ => 0)⟩, ⟨true, .ints .u8 1104 (fun _ => 0)⟩, ⟨true, .ints .i64 2 (upd (upd (fun _ => 0) 0 p0) 1 size1)⟩, ⟨true, .ints .u8 1104 g19⟩, ⟨true, .ints .i64 2 r4⟩, ⟨true, .ints .u8 64 r17⟩, ⟨true, .ints .u8 64 g33⟩, ⟨true, .ints .u8 8 g34⟩, ⟨true, .ints .i64 2 (upd (upd (fun _ => 0) 0 2) 1 4)⟩]⟩

noncomputable def impl_signed.sx4_0 (p0 : Int) (size1 : Int) (r4 : Nat → Int) (r17 : Nat → Int) (x18 : Int) (g19 : Nat → Int) (o39 : Nat → Int) (o40 : Nat → Int) : St := ⟨sl 114 [(4, .sptr [(0, 2), (1, 1104)]), (5, .sptr [(2, 2), (3, 1104)]), (6, .sptr [(4, 2)]), (11, .sptr [(5, 64)]), (12, .int .i64 (x18)), (13, .sptr [(6, 64)]), (14, .sptr [(7, 8)]), (61, .int .i64 ((r4 1))), (62, .int .i64 (x18))], [⟨true, .ints .i64 2 (fun _ => 0)⟩, ⟨true, .ints .u8 1104 (fun _ => 0)⟩, ⟨true, .ints .i64 2 (upd (upd (fun _ => 0) 0 p0) 1 size1)⟩, ⟨true, .ints .u8 1104 g19⟩, ⟨true, .ints .i64 2 r4⟩, ⟨true, .ints .u8 64 r17⟩, ⟨true, .ints .u8 64 o39⟩, ⟨true, .ints .u8 8 o40⟩, ⟨true, .ints .i64 2 (upd (upd (fun _ => 0) 0 2) 1 4)⟩]⟩

theorem impl_signed.b1_gen {ρ : Type} (N : Nat) (K : AV → Heap → Option ρ) (L1 : St → Option ρ) (kv : XE → St → Option ρ) (p0 : Int) (size1 : Int) (r4 : Nat → Int) (x5 : Int) (x7 : Int) (g8 : Nat → Int) :
    xcode (E21 N) ents impl_signed.kp 0 N (cL (cK (cB (cB (cK (cA (cB (cB (cL (cK (cB (cA (cB (cB (cB impl_signed.bd))))))))))))))) 2 (impl_signed.st1 p0 size1 r4 x5 x7 g8) (roundK impl_signed.kp 0 2 L1 (mixK (impl_signed.fin N K .ret) kv)) = (impl_signed.b1 N (fun d0 d1 => K (.agg [⟨.i64, 2, d0⟩, ⟨.u8, 1104, d1⟩]) []) (fun x7 g8 => L1 (impl_signed.st1 p0 size1 r4 x5 x7 g8)) (fun o13 => kv (.exit 2) (impl_signed.sx1_0 p0 size1 r4 x5 o13)) r4 x5 x7 g8) := by kernel_rfl

theorem impl_signed.b1_eq {ρ : Type} (N : Nat) (K : AV → Heap → Option ρ) (L0 : St → Option ρ) (L1 : St → Option ρ) (p0 : Int) (size1 : Int) (r4 : Nat → Int) (x5 : Int) (x7 : Int) (g8 : Nat → Int) :
    xcode (E21 N) ents impl_signed.kp 0 N (cL (cK (cB (cB (cK (cA (cB (cB (cL (cK (cB (cA (cB (cB (cB impl_signed.bd))))))))))))))) 2 (impl_signed.st1 p0 size1 r4 x5 x7 g8) (roundK impl_signed.kp 0 2 L1 (impl_signed.k1g N L0 (impl_signed.k0 N K))) = (impl_signed.b1 N (fun d0 d1 => K (.agg [⟨.i64, 2, d0⟩, ⟨.u8, 1104, d1⟩]) []) (fun x7 g8 => L1 (impl_signed.st1 p0 size1 r4 x5 x7 g8)) (fun o13 => (impl_signed.k1g N L0 (impl_signed.k0 N K)) (.exit 2) (impl_signed.sx1_0 p0 size1 r4 x5 o13)) r4 x5 x7 g8) := by
  have h := impl_signed.b1_gen N K L1 (impl_signed.k1g N L0 (impl_signed.k0 N K)) p0 size1 r4 x5 x7 g8
  rw [impl_signed.k1_mix] at h
  exact h

theorem impl_signed.a1_0_gen {ρ : Type} (N : Nat) (K : AV → Heap → Option ρ) (L0 : St → Option ρ) (kv : XE → St → Option ρ) (p0 : Int) (size1 : Int) (r4 : Nat → Int) (x5 : Int) (o13 : Nat → Int) :
    (impl_signed.k1g N L0 (mixK (impl_signed.fin N K .ret) kv)) (.exit 2) (impl_signed.sx1_0 p0 size1 r4 x5 o13) = (impl_signed.a1_0 N (fun d0 d1 => K (.agg [⟨.i64, 2, d0⟩, ⟨.u8, 1104, d1⟩]) []) (fun x5 g6 => L0 (impl_signed.st0 p0 size1 r4 x5 g6)) (fun o14 => kv (.exit 0) (impl_signed.sx0_0 p0 size1 r4 o14)) x5 o13) := by kernel_rfl

theorem impl_signed.a1_0_eq {ρ : Type} (N : Nat) (K : AV → Heap → Option ρ) (L0 : St → Option ρ) (p0 : Int) (size1 : Int) (r4 : Nat → Int) (x5 : Int) (o13 : Nat → Int) :
    (impl_signed.k1g N L0 (impl_signed.k0 N K)) (.exit 2) (impl_signed.sx1_0 p0 size1 r4 x5 o13) = (impl_signed.a1_0 N (fun d0 d1 => K (.agg [⟨.i64, 2, d0⟩, ⟨.u8, 1104, d1⟩]) []) (fun x5 g6 => L0 (impl_signed.st0 p0 size1 r4 x5 g6)) (fun o14 => (impl_signed.k0 N K) (.exit 0) (impl_signed.sx0_0 p0 size1 r4 o14)) x5 o13) := by
  have h := impl_signed.a1_0_gen N K L0 (impl_signed.k0 N K) p0 size1 r4 x5 o13
  rw [impl_signed.k0_mix] at h
  exact h

theorem impl_signed.b3_gen {ρ : Type} (N : Nat) (K : AV → Heap → Option ρ) (L3 : St → Option ρ) (kv : XE → St → Option ρ) (p0 : Int) (size1 : Int) (r4 : Nat → Int) (r17 : Nat → Int) (x18 : Int) (g19 : Nat → Int) (x23 : Int) (g24 : Nat → Int) (g25 : Nat → Int) :
    xcode (E21 N) ents impl_signed.kp 0 N (cL (cK (cB (cA (cB (cB (cB (cK (cA (cB (cB (cL (cK (cB (cA (cB (cB (cB (cB (cB (cB impl_signed.bd))))))))))))))))))))) 6 (impl_signed.st3 p0 size1 r4 r17 x18 g19 x23 g24 g25) (roundK impl_signed.kp 0 6 L3 (mixK (impl_signed.fin N K .ret) kv)) = (impl_signed.b3 N (fun d0 d1 => K (.agg [⟨.i64, 2, d0⟩, ⟨.u8, 1104, d1⟩]) []) (fun x23 g24 g25 => L3 (impl_signed.st3 p0 size1 r4 r17 x18 g19 x23 g24 g25)) (fun o30 o31 => kv (.exit 6) (impl_signed.sx3_0 p0 size1 r4 r17 x18 g19 o30 o31)) p0 size1 r4 x18 g19 x23 g24 g25) := by kernel_rfl

theorem impl_signed.b3_eq {ρ : Type} (N : Nat) (K : AV → Heap → Option ρ) (L2 : St → Option ρ) (L3 : St → Option ρ) (p0 : Int) (size1 : Int) (r4 : Nat → Int) (r17 : Nat → Int) (x18 : Int) (g19 : Nat → Int) (x23 : Int) (g24 : Nat → Int) (g25 : Nat → Int) :
    xcode (E21 N) ents impl_signed.kp 0 N (cL (cK (cB (cA (cB (cB (cB (cK (cA (cB (cB (cL (cK (cB (cA (cB (cB (cB (cB (cB (cB impl_signed.bd))))))))))))))))))))) 6 (impl_signed.st3 p0 size1 r4 r17 x18 g19 x23 g24 g25) (roundK impl_signed.kp 0 6 L3 (impl_signed.k3g N L2 (impl_signed.k2 N K))) = (impl_signed.b3 N (fun d0 d1 => K (.agg [⟨.i64, 2, d0⟩, ⟨.u8, 1104, d1⟩]) []) (fun x23 g24 g25 => L3 (impl_signed.st3 p0 size1 r4 r17 x18 g19 x23 g24 g25)) (fun o30 o31 => (impl_signed.k3g N L2 (impl_signed.k2 N K)) (.exit 6) (impl_signed.sx3_0 p0 size1 r4 r17 x18 g19 o30 o31)) p0 size1 r4 x18 g19 x23 g24 g25) := by
  have h := impl_signed.b3_gen N K L3 (impl_signed.k3g N L2 (impl_signed.k2 N K)) p0 size1 r4 r17 x18 g19 x23 g24 g25
  rw [impl_signed.k3_mix] at h
  exact h

theorem impl_signed.a3_0_gen {ρ : Type} (N : Nat) (K : AV → Heap → Option ρ) (L2 : St → Option ρ) (kv : XE → St → Option ρ) (p0 : Int) (size1 : Int) (r4 : Nat → Int) (r17 : Nat → Int) (x18 : Int) (g19 : Nat → Int) (o30 : Nat → Int) (o31 : Nat → Int) :
    (impl_signed.k3g N L2 (mixK (impl_signed.fin N K .ret) kv)) (.exit 6) (impl_signed.sx3_0 p0 size1 r4 r17 x18 g19 o30 o31) = (impl_signed.a3_0 N (fun d0 d1 => K (.agg [⟨.i64, 2, d0⟩, ⟨.u8, 1104, d1⟩]) []) (fun x18 g19 => L2 (impl_signed.st2 p0 size1 r4 r17 x18 g19)) (fun o41 => kv (.exit 4) (impl_signed.sx2_0 p0 size1 r4 r17 o41)) x18 g19 o30 o31) := by kernel_rfl

theorem impl_signed.a3_0_eq {ρ : Type} (N : Nat) (K : AV → Heap → Option ρ) (L2 : St → Option ρ) (p0 : Int) (size1 : Int) (r4 : Nat → Int) (r17 : Nat → Int) (x18 : Int) (g19 : Nat → Int) (o30 : Nat → Int) (o31 : Nat → Int) :
    (impl_signed.k3g N L2 (impl_signed.k2 N K)) (.exit 6) (impl_signed.sx3_0 p0 size1 r4 r17 x18 g19 o30 o31) = (impl_signed.a3_0 N (fun d0 d1 => K (.agg [⟨.i64, 2, d0⟩, ⟨.u8, 1104, d1⟩]) []) (fun x18 g19 => L2 (impl_signed.st2 p0 size1 r4 r17 x18 g19)) (fun o41 => (impl_signed.k2 N K) (.exit 4) (impl_signed.sx2_0 p0 size1 r4 r17 o41)) x18 g19 o30 o31) := by
  have h := impl_signed.a3_0_gen N K L2 (impl_signed.k2 N K) p0 size1 r4 r17 x18 g19 o30 o31
  rw [impl_signed.k2_mix] at h
  exact h

theorem impl_signed.b4_gen {ρ : Type} (N : Nat) (K : AV → Heap → Option ρ) (L4 : St → Option ρ) (kv : XE → St → Option ρ) (p0 : Int) (size1 : Int) (r4 : Nat → Int) (r17 : Nat → Int) (x18 : Int) (g19 : Nat → Int) (x32 : Int) (g33 : Nat → Int) (g34 : Nat → Int) :
    xcode (E21 N) ents impl_signed.kp 0 N (cL (cK (cB (cA (cB (cB (cB (cK (cA (cB (cB (cL (cK (cB (cA (cB (cB (cB (cB (cB (cB impl_signed.bd))))))))))))))))))))) 6 (impl_signed.st4 p0 size1 r4 r17 x18 g19 x32 g33 g34) (roundK impl_signed.kp 0 6 L4 (mixK (impl_signed.fin N K .ret) kv)) = (impl_signed.b4 N (fun d0 d1 => K (.agg [⟨.i64, 2, d0⟩, ⟨.u8, 1104, d1⟩]) []) (fun x32 g33 g34 => L4 (impl_signed.st4 p0 size1 r4 r17 x18 g19 x32 g33 g34)) (fun o39 o40 => kv (.exit 6) (impl_signed.sx4_0 p0 size1 r4 r17 x18 g19 o39 o40)) p0 size1 r4 x18 g19 x32 g33 g34) := by kernel_rfl

theorem impl_signed.b4_eq {ρ : Type} (N : Nat) (K : AV → Heap → Option ρ) (L2 : St → Option ρ) (L4 : St → Option ρ) (p0 : Int) (size1 : Int) (r4 : Nat → Int) (r17 : Nat → Int) (x18 : Int) (g19 : Nat → Int) (x32 : Int) (g33 : Nat → Int) (g34 : Nat → Int) :
    xcode (E21 N) ents impl_signed.kp 0 N (cL (cK (cB (cA (cB (cB (cB (cK (cA (cB (cB (cL (cK (cB (cA (cB (cB (cB (cB (cB (cB impl_signed.bd))))))))))))))))))))) 6 (impl_signed.st4 p0 size1 r4 r17 x18 g19 x32 g33 g34) (roundK impl_signed.kp 0 6 L4 (impl_signed.k4g N L2 (impl_signed.k2 N K))) = (impl_signed.b4 N (fun d0 d1 => K (.agg [⟨.i64, 2, d0⟩, ⟨.u8, 1104, d1⟩]) []) (fun x32 g33 g34 => L4 (impl_signed.st4 p0 size1 r4 r17 x18 g19 x32 g33 g34)) (fun o39 o40 => (impl_signed.k4g N L2 (impl_signed.k2 N K)) (.exit 6) (impl_signed.sx4_0 p0 size1 r4 r17 x18 g19 o39 o40)) p0 size1 r4 x18 g19 x32 g33 g34) := by
  have h := impl_signed.b4_gen N K L4 (impl_signed.k4g N L2 (impl_signed.k2 N K)) p0 size1 r4 r17 x18 g19 x32 g33 g34
  rw [impl_signed.k4_mix] at h
  exact h

theorem impl_signed.a4_0_gen {ρ : Type} (N : Nat) (K : AV → Heap → Option ρ) (L2 : St → Option ρ) (kv : XE → St → Option ρ) (p0 : Int) (size1 : Int) (r4 : Nat → Int) (r17 : Nat → Int) (x18 : Int) (g19 : Nat → Int) (o39 : Nat → Int) (o40 : Nat → Int) :
    (impl_signed.k4g N L2 (mixK (impl_signed.fin N K .ret) kv)) (.exit 6) (impl_signed.sx4_0 p0 size1 r4 r17 x18 g19 o39 o40) = (impl_signed.a4_0 N (fun d0 d1 => K (.agg [⟨.i64, 2, d0⟩, ⟨.u8, 1104, d1⟩]) []) (fun x18 g19 => L2 (impl_signed.st2 p0 size1 r4 r17 x18 g19)) (fun o41 => kv (.exit 4) (impl_signed.sx2_0 p0 size1 r4 r17 o41)) x18 g19 o39 o40) := by kernel_rfl

theorem impl_signed.a4_0_eq {ρ : Type} (N : Nat) (K : AV → Heap → Option ρ) (L2 : St → Option ρ) (p0 : Int) (size1 : Int) (r4 : Nat → Int) (r17 : Nat → Int) (x18 : Int) (g19 : Nat → Int) (o39 : Nat → Int) (o40 : Nat → Int) :
    (impl_signed.k4g N L2 (impl_signed.k2 N K)) (.exit 6) (impl_signed.sx4_0 p0 size1 r4 r17 x18 g19 o39 o40) = (impl_signed.a4_0 N (fun d0 d1 => K (.agg [⟨.i64, 2, d0⟩, ⟨.u8, 1104, d1⟩]) []) (fun x18 g19 => L2 (impl_signed.st2 p0 size1 r4 r17 x18 g19)) (fun o41 => (impl_signed.k2 N K) (.exit 4) (impl_signed.sx2_0 p0 size1 r4 r17 o41)) x18 g19 o39 o40) := by
  have h := impl_signed.a4_0_gen N K L2 (impl_signed.k2 N K) p0 size1 r4 r17 x18 g19 o39 o40
  rw [impl_signed.k2_mix] at h
  exact h

theorem impl_signed.b2_gen {ρ : Type} (N : Nat) (K : AV → Heap → Option ρ) (L2 : St → Option ρ) (kv : XE → St → Option ρ) (p0 : Int) (size1 : Int) (r4 : Nat → Int) (r17 : Nat → Int) (x18 : Int) (g19 : Nat → Int) :
    xcode (E21 N) ents impl_signed.kp 0 N (cL (cK (cB (cA (cB (cB (cB (cB (cB (cB impl_signed.bd)))))))))) 4 (impl_signed.st2 p0 size1 r4 r17 x18 g19) (roundK impl_signed.kp 0 4 L2 (mixK (impl_signed.fin N K .ret) kv)) = (impl_signed.b2 N (fun d0 d1 => K (.agg [⟨.i64, 2, d0⟩, ⟨.u8, 1104, d1⟩]) []) (fun x23 g24 g25 => xloop (xcode (E21 N) ents impl_signed.kp 0 N (cL (cK (cB (cA (cB (cB (cB (cK (cA (cB (cB (cL (cK (cB (cA (cB (cB (cB (cB (cB (cB impl_signed.bd))))))))))))))))))))) 6) impl_signed.kp 0 6 N (impl_signed.st3 p0 size1 r4 r17 x18 g19 x23 g24 g25) (impl_signed.k3g N L2 (mixK (impl_signed.fin N K .ret) kv))) (fun x32 g33 g34 => xloop (xcode (E21 N) ents impl_signed.kp 0 N (cL (cK (cB (cA (cB (cB (cB (cK (cA (cB (cB (cL (cK (cB (cA (cB (cB (cB (cB (cB (cB impl_signed.bd))))))))))))))))))))) 6) impl_signed.kp 0 6 N (impl_signed.st4 p0 size1 r4 r17 x18 g19 x32 g33 g34) (impl_signed.k4g N L2 (mixK (impl_signed.fin N K .ret) kv))) (fun x18 g19 => L2 (impl_signed.st2 p0 size1 r4 r17 x18 g19)) (fun o41 => kv (.exit 4) (impl_signed.sx2_0 p0 size1 r4 r17 o41)) p0 size1 r4 r17 x18 g19) := by kernel_rfl

theorem impl_signed.b2_eq {ρ : Type} (N : Nat) (K : AV → Heap → Option ρ) (L2 : St → Option ρ) (p0 : Int) (size1 : Int) (r4 : Nat → Int) (r17 : Nat → Int) (x18 : Int) (g19 : Nat → Int) :
    xcode (E21 N) ents impl_signed.kp 0 N (cL (cK (cB (cA (cB (cB (cB (cB (cB (cB impl_signed.bd)))))))))) 4 (impl_signed.st2 p0 size1 r4 r17 x18 g19) (roundK impl_signed.kp 0 4 L2 (impl_signed.k2 N K)) = (impl_signed.b2 N (fun d0 d1 => K (.agg [⟨.i64, 2, d0⟩, ⟨.u8, 1104, d1⟩]) []) (fun x23 g24 g25 => xloop (xcode (E21 N) ents impl_signed.kp 0 N (cL (cK (cB (cA (cB (cB (cB (cK (cA (cB (cB (cL (cK (cB (cA (cB (cB (cB (cB (cB (cB impl_signed.bd))))))))))))))))))))) 6) impl_signed.kp 0 6 N (impl_signed.st3 p0 size1 r4 r17 x18 g19 x23 g24 g25) (impl_signed.k3g N L2 (impl_signed.k2 N K))) (fun x32 g33 g34 => xloop (xcode (E21 N) ents impl_signed.kp 0 N (cL (cK (cB (cA (cB (cB (cB (cK (cA (cB (cB (cL (cK (cB (cA (cB (cB (cB (cB (cB (cB impl_signed.bd))))))))))))))))))))) 6) impl_signed.kp 0 6 N (impl_signed.st4 p0 size1 r4 r17 x18 g19 x32 g33 g34) (impl_signed.k4g N L2 (impl_signed.k2 N K))) (fun x18 g19 => L2 (impl_signed.st2 p0 size1 r4 r17 x18 g19)) (fun o41 => (impl_signed.k2 N K) (.exit 4) (impl_signed.sx2_0 p0 size1 r4 r17 o41)) p0 size1 r4 r17 x18 g19) := by
  have h := impl_signed.b2_gen N K L2 (impl_signed.k2 N K) p0 size1 r4 r17 x18 g19
  rw [impl_signed.k2_mix] at h
  exact h

theorem impl_signed.a2_0_eq {ρ : Type} (N : Nat) (K : AV → Heap → Option ρ) (p0 : Int) (size1 : Int) (r4 : Nat → Int) (r17 : Nat → Int) (o41 : Nat → Int) :
    (impl_signed.k2 N K) (.exit 4) (impl_signed.sx2_0 p0 size1 r4 r17 o41) = (impl_signed.a2_0 N (fun d0 d1 => K (.agg [⟨.i64, 2, d0⟩, ⟨.u8, 1104, d1⟩]) []) p0 size1 o41) := by kernel_rfl

theorem impl_signed.b0_gen {ρ : Type} (N : Nat) (K : AV → Heap → Option ρ) (L0 : St → Option ρ) (kv : XE → St → Option ρ) (p0 : Int) (size1 : Int) (r4 : Nat → Int) (x5 : Int) (g6 : Nat → Int) :
    xcode (E21 N) ents impl_signed.kp 0 N (cL (cK (cB (cA (cB (cB (cB impl_signed.bd))))))) 0 (impl_signed.st0 p0 size1 r4 x5 g6) (roundK impl_signed.kp 0 0 L0 (mixK (impl_signed.fin N K .ret) kv)) = (impl_signed.b0 N (fun d0 d1 => K (.agg [⟨.i64, 2, d0⟩, ⟨.u8, 1104, d1⟩]) []) (fun x7 g8 => xloop (xcode (E21 N) ents impl_signed.kp 0 N (cL (cK (cB (cB (cK (cA (cB (cB (cL (cK (cB (cA (cB (cB (cB impl_signed.bd))))))))))))))) 2) impl_signed.kp 0 2 N (impl_signed.st1 p0 size1 r4 x5 x7 g8) (impl_signed.k1g N L0 (mixK (impl_signed.fin N K .ret) kv))) (fun x5 g6 => L0 (impl_signed.st0 p0 size1 r4 x5 g6)) (fun o14 => kv (.exit 0) (impl_signed.sx0_0 p0 size1 r4 o14)) r4 x5 g6) := by kernel_rfl

theorem impl_signed.b0_eq {ρ : Type} (N : Nat) (K : AV → Heap → Option ρ) (L0 : St → Option ρ) (p0 : Int) (size1 : Int) (r4 : Nat → Int) (x5 : Int) (g6 : Nat → Int) :
    xcode (E21 N) ents impl_signed.kp 0 N (cL (cK (cB (cA (cB (cB (cB impl_signed.bd))))))) 0 (impl_signed.st0 p0 size1 r4 x5 g6) (roundK impl_signed.kp 0 0 L0 (impl_signed.k0 N K)) = (impl_signed.b0 N (fun d0 d1 => K (.agg [⟨.i64, 2, d0⟩, ⟨.u8, 1104, d1⟩]) []) (fun x7 g8 => xloop (xcode (E21 N) ents impl_signed.kp 0 N (cL (cK (cB (cB (cK (cA (cB (cB (cL (cK (cB (cA (cB (cB (cB impl_signed.bd))))))))))))))) 2) impl_signed.kp 0 2 N (impl_signed.st1 p0 size1 r4 x5 x7 g8) (impl_signed.k1g N L0 (impl_signed.k0 N K))) (fun x5 g6 => L0 (impl_signed.st0 p0 size1 r4 x5 g6)) (fun o14 => (impl_signed.k0 N K) (.exit 0) (impl_signed.sx0_0 p0 size1 r4 o14)) r4 x5 g6) := by
  have h := impl_signed.b0_gen N K L0 (impl_signed.k0 N K) p0 size1 r4 x5 g6
  rw [impl_signed.k0_mix] at h
  exact h

theorem impl_signed.a0_0_eq {ρ : Type} (N : Nat) (K : AV → Heap → Option ρ) (p0 : Int) (size1 : Int) (r4 : Nat → Int) (o14 : Nat → Int) :
    (impl_signed.k0 N K) (.exit 0) (impl_signed.sx0_0 p0 size1 r4 o14) = (impl_signed.a0_0 N (fun d0 d1 => K (.agg [⟨.i64, 2, d0⟩, ⟨.u8, 1104, d1⟩]) []) (fun r17 x18 g19 => xloop (xcode (E21 N) ents impl_signed.kp 0 N (cL (cK (cB (cA (cB (cB (cB (cB (cB (cB impl_signed.bd)))))))))) 4) impl_signed.kp 0 4 N (impl_signed.st2 p0 size1 r4 r17 x18 g19) (impl_signed.k2 N K)) r4 o14) := by kernel_rfl

theorem impl_signed.l1_eq {ρ : Type} (N : Nat) (K : AV → Heap → Option ρ) (L0 : St → Option ρ) (p0 : Int) (size1 : Int) (r4 : Nat → Int) (x5 : Int) :
    ∀ (m : Nat) (x7 : Int) (g8 : Nat → Int), xloop (xcode (E21 N) ents impl_signed.kp 0 N (cL (cK (cB (cB (cK (cA (cB (cB (cL (cK (cB (cA (cB (cB (cB impl_signed.bd))))))))))))))) 2) impl_signed.kp 0 2 m (impl_signed.st1 p0 size1 r4 x5 x7 g8) (impl_signed.k1g N L0 (impl_signed.k0 N K)) = (impl_signed.l1 N (fun d0 d1 => K (.agg [⟨.i64, 2, d0⟩, ⟨.u8, 1104, d1⟩]) []) r4 x5 (fun o13 => (impl_signed.k1g N L0 (impl_signed.k0 N K)) (.exit 2) (impl_signed.sx1_0 p0 size1 r4 x5 o13)) m x7 g8) := by
  intro m
  induction m with
  | zero => intros; rfl
  | succ m ih =>
    intro x7 g8
    refine (impl_signed.b1_eq N K L0 (fun s => xloop (xcode (E21 N) ents impl_signed.kp 0 N (cL (cK (cB (cB (cK (cA (cB (cB (cL (cK (cB (cA (cB (cB (cB impl_signed.bd))))))))))))))) 2) impl_signed.kp 0 2 m s (impl_signed.k1g N L0 (impl_signed.k0 N K))) p0 size1 r4 x5 x7 g8).trans ?_
    simp only [ih]
    kernel_rfl

theorem impl_signed.l3_eq {ρ : Type} (N : Nat) (K : AV → Heap → Option ρ) (L2 : St → Option ρ) (p0 : Int) (size1 : Int) (r4 : Nat → Int) (r17 : Nat → Int) (x18 : Int) (g19 : Nat → Int) :
    ∀ (m : Nat) (x23 : Int) (g24 : Nat → Int) (g25 : Nat → Int), xloop (xcode (E21 N) ents impl_signed.kp 0 N (cL (cK (cB (cA (cB (cB (cB (cK (cA (cB (cB (cL (cK (cB (cA (cB (cB (cB (cB (cB (cB impl_signed.bd))))))))))))))))))))) 6) impl_signed.kp 0 6 m (impl_signed.st3 p0 size1 r4 r17 x18 g19 x23 g24 g25) (impl_signed.k3g N L2 (impl_signed.k2 N K)) = (impl_signed.l3 N (fun d0 d1 => K (.agg [⟨.i64, 2, d0⟩, ⟨.u8, 1104, d1⟩]) []) p0 size1 r4 x18 g19 (fun o30 o31 => (impl_signed.k3g N L2 (impl_signed.k2 N K)) (.exit 6) (impl_signed.sx3_0 p0 size1 r4 r17 x18 g19 o30 o31)) m x23 g24 g25) := by
  intro m
  induction m with
  | zero => intros; rfl
  | succ m ih =>
    intro x23 g24 g25
    refine (impl_signed.b3_eq N K L2 (fun s => xloop (xcode (E21 N) ents impl_signed.kp 0 N (cL (cK (cB (cA (cB (cB (cB (cK (cA (cB (cB (cL (cK (cB (cA (cB (cB (cB (cB (cB (cB impl_signed.bd))))))))))))))))))))) 6) impl_signed.kp 0 6 m s (impl_signed.k3g N L2 (impl_signed.k2 N K))) p0 size1 r4 r17 x18 g19 x23 g24 g25).trans ?_
    simp only [ih]
    kernel_rfl

theorem impl_signed.l4_eq {ρ : Type} (N : Nat) (K : AV → Heap → Option ρ) (L2 : St → Option ρ) (p0 : Int) (size1 : Int) (r4 : Nat → Int) (r17 : Nat → Int) (x18 : Int) (g19 : Nat → Int) :
    ∀ (m : Nat) (x32 : Int) (g33 : Nat → Int) (g34 : Nat → Int), xloop (xcode (E21 N) ents impl_signed.kp 0 N (cL (cK (cB (cA (cB (cB (cB (cK (cA (cB (cB (cL (cK (cB (cA (cB (cB (cB (cB (cB (cB impl_signed.bd))))))))))))))))))))) 6) impl_signed.kp 0 6 m (impl_signed.st4 p0 size1 r4 r17 x18 g19 x32 g33 g34) (impl_signed.k4g N L2 (impl_signed.k2 N K)) = (impl_signed.l4 N (fun d0 d1 => K (.agg [⟨.i64, 2, d0⟩, ⟨.u8, 1104, d1⟩]) []) p0 size1 r4 x18 g19 (fun o39 o40 => (impl_signed.k4g N L2 (impl_signed.k2 N K)) (.exit 6) (impl_signed.sx4_0 p0 size1 r4 r17 x18 g19 o39 o40)) m x32 g33 g34) := by
  intro m
  induction m with
  | zero => intros; rfl
  | succ m ih =>
    intro x32 g33 g34
    refine (impl_signed.b4_eq N K L2 (fun s => xloop (xcode (E21 N) ents impl_signed.kp 0 N (cL (cK (cB (cA (cB (cB (cB (cK (cA (cB (cB (cL (cK (cB (cA (cB (cB (cB (cB (cB (cB impl_signed.bd))))))))))))))))))))) 6) impl_signed.kp 0 6 m s (impl_signed.k4g N L2 (impl_signed.k2 N K))) p0 size1 r4 r17 x18 g19 x32 g33 g34).trans ?_
    simp only [ih]
    kernel_rfl

theorem impl_signed.l2_eq {ρ : Type} (N : Nat) (K : AV → Heap → Option ρ) (p0 : Int) (size1 : Int) (r4 : Nat → Int) (r17 : Nat → Int) :
    ∀ (m : Nat) (x18 : Int) (g19 : Nat → Int), xloop (xcode (E21 N) ents impl_signed.kp 0 N (cL (cK (cB (cA (cB (cB (cB (cB (cB (cB impl_signed.bd)))))))))) 4) impl_signed.kp 0 4 m (impl_signed.st2 p0 size1 r4 r17 x18 g19) (impl_signed.k2 N K) = (impl_signed.l2 N (fun d0 d1 => K (.agg [⟨.i64, 2, d0⟩, ⟨.u8, 1104, d1⟩]) []) p0 size1 r4 r17 (fun o41 => (impl_signed.k2 N K) (.exit 4) (impl_signed.sx2_0 p0 size1 r4 r17 o41)) m x18 g19) := by
  intro m
  induction m with
  | zero => intros; rfl
  | succ m ih =>
    intro x18 g19
    refine (impl_signed.b2_eq N K (fun s => xloop (xcode (E21 N) ents impl_signed.kp 0 N (cL (cK (cB (cA (cB (cB (cB (cB (cB (cB impl_signed.bd)))))))))) 4) impl_signed.kp 0 4 m s (impl_signed.k2 N K)) p0 size1 r4 r17 x18 g19).trans ?_
    simp only [ih, impl_signed.l3_eq, impl_signed.a3_0_eq, impl_signed.l4_eq, impl_signed.a4_0_eq]
    kernel_rfl

theorem impl_signed.l0_eq {ρ : Type} (N : Nat) (K : AV → Heap → Option ρ) (p0 : Int) (size1 : Int) (r4 : Nat → Int) :
    ∀ (m : Nat) (x5 : Int) (g6 : Nat → Int), xloop (xcode (E21 N) ents impl_signed.kp 0 N (cL (cK (cB (cA (cB (cB (cB impl_signed.bd))))))) 0) impl_signed.kp 0 0 m (impl_signed.st0 p0 size1 r4 x5 g6) (impl_signed.k0 N K) = (impl_signed.l0 N (fun d0 d1 => K (.agg [⟨.i64, 2, d0⟩, ⟨.u8, 1104, d1⟩]) []) r4 (fun o14 => (impl_signed.k0 N K) (.exit 0) (impl_signed.sx0_0 p0 size1 r4 o14)) m x5 g6) := by
  intro m
  induction m with
  | zero => intros; rfl
  | succ m ih =>
    intro x5 g6
    refine (impl_signed.b0_eq N K (fun s => xloop (xcode (E21 N) ents impl_signed.kp 0 N (cL (cK (cB (cA (cB (cB (cB impl_signed.bd))))))) 0) impl_signed.kp 0 0 m s (impl_signed.k0 N K)) p0 size1 r4 x5 g6).trans ?_
    simp only [ih, impl_signed.l1_eq, impl_signed.a1_0_eq]
    kernel_rfl

theorem impl_signed.s_eq {ρ : Type} (N : Nat) (K : AV → Heap → Option ρ) (p0 : Int) (size1 : Int) :
    xbody (E21 N) ents impl_signed.kp N Go.Proofs.Try.f10 impl_signed.bd [.int .i64 (p0), .int .i64 (size1)] [] K = (impl_signed.s N (fun d0 d1 => K (.agg [⟨.i64, 2, d0⟩, ⟨.u8, 1104, d1⟩]) []) (fun r4 x5 g6 => xloop (xcode (E21 N) ents impl_signed.kp 0 N (cL (cK (cB (cA (cB (cB (cB impl_signed.bd))))))) 0) impl_signed.kp 0 0 N (impl_signed.st0 p0 size1 r4 x5 g6) (impl_signed.k0 N K)) p0 size1) := by kernel_rfl

theorem impl_signed.eq {ρ : Type} (N : Nat) (K : AV → Heap → Option ρ) (p0 : Int) (size1 : Int) :
    xbody (E21 N) ents impl_signed.kp N Go.Proofs.Try.f10 impl_signed.bd [.int .i64 (p0), .int .i64 (size1)] [] K = (impl_signed N (fun d0 d1 => K (.agg [⟨.i64, 2, d0⟩, ⟨.u8, 1104, d1⟩]) []) p0 size1) := by
  refine (impl_signed.s_eq N K p0 size1).trans ?_
  simp only [impl_signed.l0_eq, impl_signed.a0_0_eq, impl_signed.l2_eq, impl_signed.a2_0_eq]
  kernel_rfl

noncomputable def impl_signed.en (N : Nat) (ρ : Type) : List AV → Heap → (AV → Heap → Option ρ) → Option ρ
  | [.int .i64 (p0), .int .i64 (size1)], [], K => (impl_signed N (fun d0 d1 => K (.agg [⟨.i64, 2, d0⟩, ⟨.u8, 1104, d1⟩]) []) p0 size1)
  | _, _, _ => none

theorem impl_signed.en_ok (N : Nat) (hE : EnvOk (E21 N) ents) (ρ : Type) (args : List AV) (sh : Heap) (K : AV → Heap → Option ρ) (r : ρ) (h : impl_signed.en N ρ args sh K = some r) : ∃ v sh', K v sh' = some r ∧ FnOk (E21 N).P 10 args sh v sh' := by
  unfold impl_signed.en at h
  split at h
  · exact fn_ok hE (kp := impl_signed.kp) (N := N) Go.Proofs.Try.func10 (c := impl_signed.bd) (by kernel_rfl) ((impl_signed.eq N _ _ _).trans h)
  · cases h

noncomputable def E22 (N : Nat) : Env := (E21 N).add 10 (impl_signed.en N)

theorem E22_ok (N : Nat) : EnvOk (E22 N) ents := Env.add_ok (E21_ok N) (impl_signed.en_ok N (E21_ok N))

noncomputable def impl_SweedlerHopf.kp : Keeps := ⟨[], []⟩

noncomputable def impl_SweedlerHopf.bd : Code := bodyOf Go.Proofs.Try.f5

noncomputable def impl_SweedlerHopf.fin {ρ : Type} (N : Nat) (K : AV → Heap → Option ρ) : XE → St → Option ρ := finK (E22 N) Go.Proofs.Try.f5 [] K

theorem impl_SweedlerHopf.eq {ρ : Type} (N : Nat) (K : AV → Heap → Option ρ) (p0 : Int) :
    xbody (E22 N) ents impl_SweedlerHopf.kp N Go.Proofs.Try.f5 impl_SweedlerHopf.bd [.int .i64 (p0)] [] K = (impl_SweedlerHopf N (fun d0 d1 d2 => K (.tup [.agg [⟨.i64, 2, d0⟩, ⟨.u8, 1104, d1⟩], .int .i64 (d2)]) []) p0) := by kernel_rfl

noncomputable def impl_SweedlerHopf.en (N : Nat) (ρ : Type) : List AV → Heap → (AV → Heap → Option ρ) → Option ρ
  | [.int .i64 (p0)], [], K => (impl_SweedlerHopf N (fun d0 d1 d2 => K (.tup [.agg [⟨.i64, 2, d0⟩, ⟨.u8, 1104, d1⟩], .int .i64 (d2)]) []) p0)
  | _, _, _ => none

theorem impl_SweedlerHopf.en_ok (N : Nat) (hE : EnvOk (E22 N) ents) (ρ : Type) (args : List AV) (sh : Heap) (K : AV → Heap → Option ρ) (r : ρ) (h : impl_SweedlerHopf.en N ρ args sh K = some r) : ∃ v sh', K v sh' = some r ∧ FnOk (E22 N).P 5 args sh v sh' := by
  unfold impl_SweedlerHopf.en at h
  split at h
  · exact fn_ok hE (kp := impl_SweedlerHopf.kp) (N := N) Go.Proofs.Try.func5 (c := impl_SweedlerHopf.bd) (by kernel_rfl) ((impl_SweedlerHopf.eq N _ _).trans h)
  · cases h

noncomputable def E23 (N : Nat) : Env := (E22 N).add 5 (impl_SweedlerHopf.en N)

theorem E23_ok (N : Nat) : EnvOk (E23 N) ents := Env.add_ok (E22_ok N) (impl_SweedlerHopf.en_ok N (E22_ok N))

noncomputable def laws_eqVector.kp : Keeps := ⟨[(0, [2, 3, 5], 2)], [(0, [], 2)]⟩

noncomputable def laws_eqVector.bd : Code := bodyOf Go.Proofs.Try.f11

noncomputable def laws_eqVector.fin {ρ : Type} (N : Nat) (K : AV → Heap → Option ρ) : XE → St → Option ρ := finK (E23 N) Go.Proofs.Try.f11 [] K

noncomputable def laws_eqVector.k0 {ρ : Type} (N : Nat) (K : AV → Heap → Option ρ) : XE → St → Option ρ := (blockK laws_eqVector.kp 0 0 (seqK (xcode (E23 N) ents laws_eqVector.kp 0 N (cB (cB laws_eqVector.bd)) 0) (laws_eqVector.fin N K)))

theorem laws_eqVector.k0_mix {ρ : Type} (N : Nat) (K : AV → Heap → Option ρ) : mixK (laws_eqVector.fin N K .ret) (laws_eqVector.k0 N K) = (laws_eqVector.k0 N K) := by
  funext e s; cases e <;> rfl

noncomputable def laws_eqVector.st0 (a0 : Nat → Int) (b1 : Nat → Int) (i2 : Int) : St := ⟨sl 17 [(2, .sptr [(0, 8)]), (3, .sptr [(1, 8)]), (5, .int .i64 (i2))], [⟨true, .ints .u8 8 a0⟩, ⟨true, .ints .u8 8 b1⟩]⟩

noncomputable def laws_eqVector.sx0_0 (a0 : Nat → Int) (b1 : Nat → Int) : St := ⟨sl 17 [], [⟨true, .ints .u8 8 a0⟩, ⟨true, .ints .u8 8 b1⟩]⟩

theorem laws_eqVector.b0_gen {ρ : Type} (N : Nat) (K : AV → Heap → Option ρ) (L0 : St → Option ρ) (kv : XE → St → Option ρ) (a0 : Nat → Int) (b1 : Nat → Int) (i2 : Int) :
    xcode (E23 N) ents laws_eqVector.kp 0 N (cL (cK (cB (cA (cB laws_eqVector.bd))))) 0 (laws_eqVector.st0 a0 b1 i2) (roundK laws_eqVector.kp 0 0 L0 (mixK (laws_eqVector.fin N K .ret) kv)) = (laws_eqVector.b0 N (fun d0 => K (.bool (d0)) []) (fun i2 => L0 (laws_eqVector.st0 a0 b1 i2)) (kv (.exit 0) (laws_eqVector.sx0_0 a0 b1)) a0 b1 i2) := by kernel_rfl

theorem laws_eqVector.b0_eq {ρ : Type} (N : Nat) (K : AV → Heap → Option ρ) (L0 : St → Option ρ) (a0 : Nat → Int) (b1 : Nat → Int) (i2 : Int) :
    xcode (E23 N) ents laws_eqVector.kp 0 N (cL (cK (cB (cA (cB laws_eqVector.bd))))) 0 (laws_eqVector.st0 a0 b1 i2) (roundK laws_eqVector.kp 0 0 L0 (laws_eqVector.k0 N K)) = (laws_eqVector.b0 N (fun d0 => K (.bool (d0)) []) (fun i2 => L0 (laws_eqVector.st0 a0 b1 i2)) ((laws_eqVector.k0 N K) (.exit 0) (laws_eqVector.sx0_0 a0 b1)) a0 b1 i2) := by
  have h := laws_eqVector.b0_gen N K L0 (laws_eqVector.k0 N K) a0 b1 i2
  rw [laws_eqVector.k0_mix] at h
  exact h

theorem laws_eqVector.a0_0_eq {ρ : Type} (N : Nat) (K : AV → Heap → Option ρ) (a0 : Nat → Int) (b1 : Nat → Int) :
    (laws_eqVector.k0 N K) (.exit 0) (laws_eqVector.sx0_0 a0 b1) = (laws_eqVector.a0_0 N (fun d0 => K (.bool (d0)) [])) := by kernel_rfl

theorem laws_eqVector.l0_eq {ρ : Type} (N : Nat) (K : AV → Heap → Option ρ) (a0 : Nat → Int) (b1 : Nat → Int) :
    ∀ (m : Nat) (i2 : Int), xloop (xcode (E23 N) ents laws_eqVector.kp 0 N (cL (cK (cB (cA (cB laws_eqVector.bd))))) 0) laws_eqVector.kp 0 0 m (laws_eqVector.st0 a0 b1 i2) (laws_eqVector.k0 N K) = (laws_eqVector.l0 N (fun d0 => K (.bool (d0)) []) a0 b1 ((laws_eqVector.k0 N K) (.exit 0) (laws_eqVector.sx0_0 a0 b1)) m i2) := by
  intro m
  induction m with
  | zero => intros; rfl
  | succ m ih =>
    intro i2
    refine (laws_eqVector.b0_eq N K (fun s => xloop (xcode (E23 N) ents laws_eqVector.kp 0 N (cL (cK (cB (cA (cB laws_eqVector.bd))))) 0) laws_eqVector.kp 0 0 m s (laws_eqVector.k0 N K)) a0 b1 i2).trans ?_
    simp only [ih]
    kernel_rfl

theorem laws_eqVector.s_eq {ρ : Type} (N : Nat) (K : AV → Heap → Option ρ) (a0 : Nat → Int) (b1 : Nat → Int) :
    xbody (E23 N) ents laws_eqVector.kp N Go.Proofs.Try.f11 laws_eqVector.bd [.agg [⟨.u8, 8, a0⟩], .agg [⟨.u8, 8, b1⟩]] [] K = (laws_eqVector.s N (fun d0 => K (.bool (d0)) []) (fun i2 => xloop (xcode (E23 N) ents laws_eqVector.kp 0 N (cL (cK (cB (cA (cB laws_eqVector.bd))))) 0) laws_eqVector.kp 0 0 N (laws_eqVector.st0 a0 b1 i2) (laws_eqVector.k0 N K))) := by kernel_rfl

theorem laws_eqVector.eq {ρ : Type} (N : Nat) (K : AV → Heap → Option ρ) (a0 : Nat → Int) (b1 : Nat → Int) :
    xbody (E23 N) ents laws_eqVector.kp N Go.Proofs.Try.f11 laws_eqVector.bd [.agg [⟨.u8, 8, a0⟩], .agg [⟨.u8, 8, b1⟩]] [] K = (laws_eqVector N (fun d0 => K (.bool (d0)) []) a0 b1) := by
  refine (laws_eqVector.s_eq N K a0 b1).trans ?_
  simp only [laws_eqVector.l0_eq, laws_eqVector.a0_0_eq]
  kernel_rfl

noncomputable def laws_eqVector.en (N : Nat) (ρ : Type) : List AV → Heap → (AV → Heap → Option ρ) → Option ρ
  | [.agg [⟨.u8, 8, a0⟩], .agg [⟨.u8, 8, b1⟩]], [], K => (laws_eqVector N (fun d0 => K (.bool (d0)) []) a0 b1)
  | _, _, _ => none

theorem laws_eqVector.en_ok (N : Nat) (hE : EnvOk (E23 N) ents) (ρ : Type) (args : List AV) (sh : Heap) (K : AV → Heap → Option ρ) (r : ρ) (h : laws_eqVector.en N ρ args sh K = some r) : ∃ v sh', K v sh' = some r ∧ FnOk (E23 N).P 11 args sh v sh' := by
  unfold laws_eqVector.en at h
  split at h
  · exact fn_ok hE (kp := laws_eqVector.kp) (N := N) Go.Proofs.Try.func11 (c := laws_eqVector.bd) (by kernel_rfl) ((laws_eqVector.eq N _ _ _).trans h)
  · cases h

noncomputable def E24 (N : Nat) : Env := (E23 N).add 11 (laws_eqVector.en N)

theorem E24_ok (N : Nat) : EnvOk (E24 N) ents := Env.add_ok (E23_ok N) (laws_eqVector.en_ok N (E23_ok N))

noncomputable def laws_eqLinear.kp : Keeps := ⟨[(0, [2, 3, 5], 2)], [(0, [], 2)]⟩

noncomputable def laws_eqLinear.bd : Code := bodyOf Go.Proofs.Try.f13

noncomputable def laws_eqLinear.fin {ρ : Type} (N : Nat) (K : AV → Heap → Option ρ) : XE → St → Option ρ := finK (E24 N) Go.Proofs.Try.f13 [] K

noncomputable def laws_eqLinear.k0 {ρ : Type} (N : Nat) (K : AV → Heap → Option ρ) : XE → St → Option ρ := (blockK laws_eqLinear.kp 0 0 (seqK (xcode (E24 N) ents laws_eqLinear.kp 0 N (cB (cB laws_eqLinear.bd)) 0) (laws_eqLinear.fin N K)))

theorem laws_eqLinear.k0_mix {ρ : Type} (N : Nat) (K : AV → Heap → Option ρ) : mixK (laws_eqLinear.fin N K .ret) (laws_eqLinear.k0 N K) = (laws_eqLinear.k0 N K) := by
  funext e s; cases e <;> rfl

noncomputable def laws_eqLinear.st0 (a0 : Nat → Int) (b1 : Nat → Int) (i2 : Int) : St := ⟨sl 18 [(2, .sptr [(0, 64)]), (3, .sptr [(1, 64)]), (5, .int .i64 (i2))], [⟨true, .ints .u8 64 a0⟩, ⟨true, .ints .u8 64 b1⟩]⟩

noncomputable def laws_eqLinear.sx0_0 (a0 : Nat → Int) (b1 : Nat → Int) : St := ⟨sl 18 [], [⟨true, .ints .u8 64 a0⟩, ⟨true, .ints .u8 64 b1⟩]⟩

theorem laws_eqLinear.b0_gen {ρ : Type} (N : Nat) (K : AV → Heap → Option ρ) (L0 : St → Option ρ) (kv : XE → St → Option ρ) (a0 : Nat → Int) (b1 : Nat → Int) (i2 : Int) :
    xcode (E24 N) ents laws_eqLinear.kp 0 N (cL (cK (cB (cA (cB laws_eqLinear.bd))))) 0 (laws_eqLinear.st0 a0 b1 i2) (roundK laws_eqLinear.kp 0 0 L0 (mixK (laws_eqLinear.fin N K .ret) kv)) = (laws_eqLinear.b0 N (fun d0 => K (.bool (d0)) []) (fun i2 => L0 (laws_eqLinear.st0 a0 b1 i2)) (kv (.exit 0) (laws_eqLinear.sx0_0 a0 b1)) a0 b1 i2) := by kernel_rfl

theorem laws_eqLinear.b0_eq {ρ : Type} (N : Nat) (K : AV → Heap → Option ρ) (L0 : St → Option ρ) (a0 : Nat → Int) (b1 : Nat → Int) (i2 : Int) :
    xcode (E24 N) ents laws_eqLinear.kp 0 N (cL (cK (cB (cA (cB laws_eqLinear.bd))))) 0 (laws_eqLinear.st0 a0 b1 i2) (roundK laws_eqLinear.kp 0 0 L0 (laws_eqLinear.k0 N K)) = (laws_eqLinear.b0 N (fun d0 => K (.bool (d0)) []) (fun i2 => L0 (laws_eqLinear.st0 a0 b1 i2)) ((laws_eqLinear.k0 N K) (.exit 0) (laws_eqLinear.sx0_0 a0 b1)) a0 b1 i2) := by
  have h := laws_eqLinear.b0_gen N K L0 (laws_eqLinear.k0 N K) a0 b1 i2
  rw [laws_eqLinear.k0_mix] at h
  exact h

theorem laws_eqLinear.a0_0_eq {ρ : Type} (N : Nat) (K : AV → Heap → Option ρ) (a0 : Nat → Int) (b1 : Nat → Int) :
    (laws_eqLinear.k0 N K) (.exit 0) (laws_eqLinear.sx0_0 a0 b1) = (laws_eqLinear.a0_0 N (fun d0 => K (.bool (d0)) [])) := by kernel_rfl

theorem laws_eqLinear.l0_eq {ρ : Type} (N : Nat) (K : AV → Heap → Option ρ) (a0 : Nat → Int) (b1 : Nat → Int) :
    ∀ (m : Nat) (i2 : Int), xloop (xcode (E24 N) ents laws_eqLinear.kp 0 N (cL (cK (cB (cA (cB laws_eqLinear.bd))))) 0) laws_eqLinear.kp 0 0 m (laws_eqLinear.st0 a0 b1 i2) (laws_eqLinear.k0 N K) = (laws_eqLinear.l0 N (fun d0 => K (.bool (d0)) []) a0 b1 ((laws_eqLinear.k0 N K) (.exit 0) (laws_eqLinear.sx0_0 a0 b1)) m i2) := by
  intro m
  induction m with
  | zero => intros; rfl
  | succ m ih =>
    intro i2
    refine (laws_eqLinear.b0_eq N K (fun s => xloop (xcode (E24 N) ents laws_eqLinear.kp 0 N (cL (cK (cB (cA (cB laws_eqLinear.bd))))) 0) laws_eqLinear.kp 0 0 m s (laws_eqLinear.k0 N K)) a0 b1 i2).trans ?_
    simp only [ih]
    kernel_rfl

theorem laws_eqLinear.s_eq {ρ : Type} (N : Nat) (K : AV → Heap → Option ρ) (a0 : Nat → Int) (b1 : Nat → Int) :
    xbody (E24 N) ents laws_eqLinear.kp N Go.Proofs.Try.f13 laws_eqLinear.bd [.agg [⟨.u8, 64, a0⟩], .agg [⟨.u8, 64, b1⟩]] [] K = (laws_eqLinear.s N (fun d0 => K (.bool (d0)) []) (fun i2 => xloop (xcode (E24 N) ents laws_eqLinear.kp 0 N (cL (cK (cB (cA (cB laws_eqLinear.bd))))) 0) laws_eqLinear.kp 0 0 N (laws_eqLinear.st0 a0 b1 i2) (laws_eqLinear.k0 N K))) := by kernel_rfl

theorem laws_eqLinear.eq {ρ : Type} (N : Nat) (K : AV → Heap → Option ρ) (a0 : Nat → Int) (b1 : Nat → Int) :
    xbody (E24 N) ents laws_eqLinear.kp N Go.Proofs.Try.f13 laws_eqLinear.bd [.agg [⟨.u8, 64, a0⟩], .agg [⟨.u8, 64, b1⟩]] [] K = (laws_eqLinear N (fun d0 => K (.bool (d0)) []) a0 b1) := by
  refine (laws_eqLinear.s_eq N K a0 b1).trans ?_
  simp only [laws_eqLinear.l0_eq, laws_eqLinear.a0_0_eq]
  kernel_rfl

noncomputable def laws_eqLinear.en (N : Nat) (ρ : Type) : List AV → Heap → (AV → Heap → Option ρ) → Option ρ
  | [.agg [⟨.u8, 64, a0⟩], .agg [⟨.u8, 64, b1⟩]], [], K => (laws_eqLinear N (fun d0 => K (.bool (d0)) []) a0 b1)
  | _, _, _ => none

theorem laws_eqLinear.en_ok (N : Nat) (hE : EnvOk (E24 N) ents) (ρ : Type) (args : List AV) (sh : Heap) (K : AV → Heap → Option ρ) (r : ρ) (h : laws_eqLinear.en N ρ args sh K = some r) : ∃ v sh', K v sh' = some r ∧ FnOk (E24 N).P 13 args sh v sh' := by
  unfold laws_eqLinear.en at h
  split at h
  · exact fn_ok hE (kp := laws_eqLinear.kp) (N := N) Go.Proofs.Try.func13 (c := laws_eqLinear.bd) (by kernel_rfl) ((laws_eqLinear.eq N _ _ _).trans h)
  · cases h

noncomputable def E25 (N : Nat) : Env := (E24 N).add 13 (laws_eqLinear.en N)

theorem E25_ok (N : Nat) : EnvOk (E25 N) ents := Env.add_ok (E24_ok N) (laws_eqLinear.en_ok N (E24_ok N))

noncomputable def laws_eqTable.kp : Keeps := ⟨[(0, [2, 3, 5], 2)], [(0, [], 2)]⟩

noncomputable def laws_eqTable.bd : Code := bodyOf Go.Proofs.Try.f12

noncomputable def laws_eqTable.fin {ρ : Type} (N : Nat) (K : AV → Heap → Option ρ) : XE → St → Option ρ := finK (E25 N) Go.Proofs.Try.f12 [] K

noncomputable def laws_eqTable.k0 {ρ : Type} (N : Nat) (K : AV → Heap → Option ρ) : XE → St → Option ρ := (blockK laws_eqTable.kp 0 0 (seqK (xcode (E25 N) ents laws_eqTable.kp 0 N (cB (cB laws_eqTable.bd)) 0) (laws_eqTable.fin N K)))

theorem laws_eqTable.k0_mix {ρ : Type} (N : Nat) (K : AV → Heap → Option ρ) : mixK (laws_eqTable.fin N K .ret) (laws_eqTable.k0 N K) = (laws_eqTable.k0 N K) := by
  funext e s; cases e <;> rfl

noncomputable def laws_eqTable.st0 (a0 : Nat → Int) (b1 : Nat → Int) (i2 : Int) : St := ⟨sl 18 [(2, .sptr [(0, 512)]), (3, .sptr [(1, 512)]), (5, .int .i64 (i2))], [⟨true, .ints .u8 512 a0⟩, ⟨true, .ints .u8 512 b1⟩]⟩

noncomputable def laws_eqTable.sx0_0 (a0 : Nat → Int) (b1 : Nat → Int) : St := ⟨sl 18 [], [⟨true, .ints .u8 512 a0⟩, ⟨true, .ints .u8 512 b1⟩]⟩

theorem laws_eqTable.b0_gen {ρ : Type} (N : Nat) (K : AV → Heap → Option ρ) (L0 : St → Option ρ) (kv : XE → St → Option ρ) (a0 : Nat → Int) (b1 : Nat → Int) (i2 : Int) :
    xcode (E25 N) ents laws_eqTable.kp 0 N (cL (cK (cB (cA (cB laws_eqTable.bd))))) 0 (laws_eqTable.st0 a0 b1 i2) (roundK laws_eqTable.kp 0 0 L0 (mixK (laws_eqTable.fin N K .ret) kv)) = (laws_eqTable.b0 N (fun d0 => K (.bool (d0)) []) (fun i2 => L0 (laws_eqTable.st0 a0 b1 i2)) (kv (.exit 0) (laws_eqTable.sx0_0 a0 b1)) a0 b1 i2) := by kernel_rfl

theorem laws_eqTable.b0_eq {ρ : Type} (N : Nat) (K : AV → Heap → Option ρ) (L0 : St → Option ρ) (a0 : Nat → Int) (b1 : Nat → Int) (i2 : Int) :
    xcode (E25 N) ents laws_eqTable.kp 0 N (cL (cK (cB (cA (cB laws_eqTable.bd))))) 0 (laws_eqTable.st0 a0 b1 i2) (roundK laws_eqTable.kp 0 0 L0 (laws_eqTable.k0 N K)) = (laws_eqTable.b0 N (fun d0 => K (.bool (d0)) []) (fun i2 => L0 (laws_eqTable.st0 a0 b1 i2)) ((laws_eqTable.k0 N K) (.exit 0) (laws_eqTable.sx0_0 a0 b1)) a0 b1 i2) := by
  have h := laws_eqTable.b0_gen N K L0 (laws_eqTable.k0 N K) a0 b1 i2
  rw [laws_eqTable.k0_mix] at h
  exact h

theorem laws_eqTable.a0_0_eq {ρ : Type} (N : Nat) (K : AV → Heap → Option ρ) (a0 : Nat → Int) (b1 : Nat → Int) :
    (laws_eqTable.k0 N K) (.exit 0) (laws_eqTable.sx0_0 a0 b1) = (laws_eqTable.a0_0 N (fun d0 => K (.bool (d0)) [])) := by kernel_rfl

theorem laws_eqTable.l0_eq {ρ : Type} (N : Nat) (K : AV → Heap → Option ρ) (a0 : Nat → Int) (b1 : Nat → Int) :
    ∀ (m : Nat) (i2 : Int), xloop (xcode (E25 N) ents laws_eqTable.kp 0 N (cL (cK (cB (cA (cB laws_eqTable.bd))))) 0) laws_eqTable.kp 0 0 m (laws_eqTable.st0 a0 b1 i2) (laws_eqTable.k0 N K) = (laws_eqTable.l0 N (fun d0 => K (.bool (d0)) []) a0 b1 ((laws_eqTable.k0 N K) (.exit 0) (laws_eqTable.sx0_0 a0 b1)) m i2) := by
  intro m
  induction m with
  | zero => intros; rfl
  | succ m ih =>
    intro i2
    refine (laws_eqTable.b0_eq N K (fun s => xloop (xcode (E25 N) ents laws_eqTable.kp 0 N (cL (cK (cB (cA (cB laws_eqTable.bd))))) 0) laws_eqTable.kp 0 0 m s (laws_eqTable.k0 N K)) a0 b1 i2).trans ?_
    simp only [ih]
    kernel_rfl

theorem laws_eqTable.s_eq {ρ : Type} (N : Nat) (K : AV → Heap → Option ρ) (a0 : Nat → Int) (b1 : Nat → Int) :
    xbody (E25 N) ents laws_eqTable.kp N Go.Proofs.Try.f12 laws_eqTable.bd [.agg [⟨.u8, 512, a0⟩], .agg [⟨.u8, 512, b1⟩]] [] K = (laws_eqTable.s N (fun d0 => K (.bool (d0)) []) (fun i2 => xloop (xcode (E25 N) ents laws_eqTable.kp 0 N (cL (cK (cB (cA (cB laws_eqTable.bd))))) 0) laws_eqTable.kp 0 0 N (laws_eqTable.st0 a0 b1 i2) (laws_eqTable.k0 N K))) := by kernel_rfl

theorem laws_eqTable.eq {ρ : Type} (N : Nat) (K : AV → Heap → Option ρ) (a0 : Nat → Int) (b1 : Nat → Int) :
    xbody (E25 N) ents laws_eqTable.kp N Go.Proofs.Try.f12 laws_eqTable.bd [.agg [⟨.u8, 512, a0⟩], .agg [⟨.u8, 512, b1⟩]] [] K = (laws_eqTable N (fun d0 => K (.bool (d0)) []) a0 b1) := by
  refine (laws_eqTable.s_eq N K a0 b1).trans ?_
  simp only [laws_eqTable.l0_eq, laws_eqTable.a0_0_eq]
  kernel_rfl

noncomputable def laws_eqTable.en (N : Nat) (ρ : Type) : List AV → Heap → (AV → Heap → Option ρ) → Option ρ
  | [.agg [⟨.u8, 512, a0⟩], .agg [⟨.u8, 512, b1⟩]], [], K => (laws_eqTable N (fun d0 => K (.bool (d0)) []) a0 b1)
  | _, _, _ => none

theorem laws_eqTable.en_ok (N : Nat) (hE : EnvOk (E25 N) ents) (ρ : Type) (args : List AV) (sh : Heap) (K : AV → Heap → Option ρ) (r : ρ) (h : laws_eqTable.en N ρ args sh K = some r) : ∃ v sh', K v sh' = some r ∧ FnOk (E25 N).P 12 args sh v sh' := by
  unfold laws_eqTable.en at h
  split at h
  · exact fn_ok hE (kp := laws_eqTable.kp) (N := N) Go.Proofs.Try.func12 (c := laws_eqTable.bd) (by kernel_rfl) ((laws_eqTable.eq N _ _ _).trans h)
  · cases h

noncomputable def E26 (N : Nat) : Env := (E25 N).add 12 (laws_eqTable.en N)

theorem E26_ok (N : Nat) : EnvOk (E26 N) ents := Env.add_ok (E25_ok N) (laws_eqTable.en_ok N (E25_ok N))

noncomputable def laws_eqHopf.kp : Keeps := ⟨[], []⟩

noncomputable def laws_eqHopf.bd : Code := bodyOf Go.Proofs.Try.f6

noncomputable def laws_eqHopf.fin {ρ : Type} (N : Nat) (K : AV → Heap → Option ρ) : XE → St → Option ρ := finK (E26 N) Go.Proofs.Try.f6 [] K

theorem laws_eqHopf.eq {ρ : Type} (N : Nat) (K : AV → Heap → Option ρ) (a0 : Nat → Int) (a1 : Nat → Int) (b2 : Nat → Int) (b3 : Nat → Int) :
    xbody (E26 N) ents laws_eqHopf.kp N Go.Proofs.Try.f6 laws_eqHopf.bd [.agg [⟨.i64, 2, a0⟩, ⟨.u8, 1104, a1⟩], .agg [⟨.i64, 2, b2⟩, ⟨.u8, 1104, b3⟩]] [] K = (laws_eqHopf N (fun d0 => K (.bool (d0)) []) a0 a1 b2 b3) := by kernel_rfl

noncomputable def laws_eqHopf.en (N : Nat) (ρ : Type) : List AV → Heap → (AV → Heap → Option ρ) → Option ρ
  | [.agg [⟨.i64, 2, a0⟩, ⟨.u8, 1104, a1⟩], .agg [⟨.i64, 2, b2⟩, ⟨.u8, 1104, b3⟩]], [], K => (laws_eqHopf N (fun d0 => K (.bool (d0)) []) a0 a1 b2 b3)
  | _, _, _ => none

theorem laws_eqHopf.en_ok (N : Nat) (hE : EnvOk (E26 N) ents) (ρ : Type) (args : List AV) (sh : Heap) (K : AV → Heap → Option ρ) (r : ρ) (h : laws_eqHopf.en N ρ args sh K = some r) : ∃ v sh', K v sh' = some r ∧ FnOk (E26 N).P 6 args sh v sh' := by
  unfold laws_eqHopf.en at h
  split at h
  · exact fn_ok hE (kp := laws_eqHopf.kp) (N := N) Go.Proofs.Try.func6 (c := laws_eqHopf.bd) (by kernel_rfl) ((laws_eqHopf.eq N _ _ _ _ _).trans h)
  · cases h

noncomputable def E27 (N : Nat) : Env := (E26 N).add 6 (laws_eqHopf.en N)

theorem E27_ok (N : Nat) : EnvOk (E27 N) ents := Env.add_ok (E26_ok N) (laws_eqHopf.en_ok N (E26_ok N))

noncomputable def laws_FnExactSweedlerHopf.kp : Keeps := ⟨[], []⟩

noncomputable def laws_FnExactSweedlerHopf.bd : Code := bodyOf Go.Proofs.Try.f3

noncomputable def laws_FnExactSweedlerHopf.fin {ρ : Type} (N : Nat) (K : AV → Heap → Option ρ) : XE → St → Option ρ := finK (E27 N) Go.Proofs.Try.f3 [] K

theorem laws_FnExactSweedlerHopf.eq {ρ : Type} (N : Nat) (K : AV → Heap → Option ρ) (aP0 : Int) :
    xbody (E27 N) ents laws_FnExactSweedlerHopf.kp N Go.Proofs.Try.f3 laws_FnExactSweedlerHopf.bd [.int .i64 (aP0)] [] K = (laws_FnExactSweedlerHopf N (fun d0 => K (.bool (d0)) []) aP0) := by kernel_rfl

noncomputable def laws_FnExactSweedlerHopf.en (N : Nat) (ρ : Type) : List AV → Heap → (AV → Heap → Option ρ) → Option ρ
  | [.int .i64 (aP0)], [], K => (laws_FnExactSweedlerHopf N (fun d0 => K (.bool (d0)) []) aP0)
  | _, _, _ => none

theorem laws_FnExactSweedlerHopf.en_ok (N : Nat) (hE : EnvOk (E27 N) ents) (ρ : Type) (args : List AV) (sh : Heap) (K : AV → Heap → Option ρ) (r : ρ) (h : laws_FnExactSweedlerHopf.en N ρ args sh K = some r) : ∃ v sh', K v sh' = some r ∧ FnOk (E27 N).P 3 args sh v sh' := by
  unfold laws_FnExactSweedlerHopf.en at h
  split at h
  · exact fn_ok hE (kp := laws_FnExactSweedlerHopf.kp) (N := N) Go.Proofs.Try.func3 (c := laws_FnExactSweedlerHopf.bd) (by kernel_rfl) ((laws_FnExactSweedlerHopf.eq N _ _).trans h)
  · cases h

noncomputable def E28 (N : Nat) : Env := (E27 N).add 3 (laws_FnExactSweedlerHopf.en N)

theorem E28_ok (N : Nat) : EnvOk (E28 N) ents := Env.add_ok (E27_ok N) (laws_FnExactSweedlerHopf.en_ok N (E27_ok N))
end Go.Proofs.Ytldjomnaeblmaaa.H
