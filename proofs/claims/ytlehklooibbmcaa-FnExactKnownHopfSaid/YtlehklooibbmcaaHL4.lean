import Derived.Test.YtlehklooibbmcaaHL3
namespace Go.Proofs.Ytlehklooibbmcaa.H
noncomputable section
set_option linter.unusedVariables false
set_option linter.unusedSimpArgs false
open Go Go.RowKit Go.Proofs.Ytlehklooibbmcaa.Hy
set_option maxRecDepth 100000
def Q46.kp : Keeps := ⟨[(0, [4, 5, 6, 25, 26], [], []), (2, [4, 5, 6, 7, 25, 26, 30, 31], [], []), (4, [4, 5, 6, 11, 61, 62], [], []), (6, [4, 5, 6, 11, 12, 13, 14, 61, 62, 78, 79, 80], [], [])], [(0, [4, 5, 6], [], []), (2, [4, 5, 6, 25, 26], [], []), (4, [4, 5], [], []), (6, [4, 5, 6, 11, 12, 13, 14, 61, 62], [], [])], []⟩
def Q46.bd : Code := bodyOf Try.f39
def Q46.fin {ρ : Type} (N : Nat) (K : AV → Heap → Option ρ) : XE → St → Option ρ := finK (E46 N) Q46.kp.fins Try.f39 [] K
def Q46.k0 {ρ : Type} (N : Nat) (K : AV → Heap → Option ρ) : XE → St → Option ρ := (blockK Q46.kp 0 0 (seqK (xcode (E46 N) ents Q46.kp 0 N (cB (cB (cB (cB Q46.bd)))) 0) (Q46.fin N K)))
theorem Q46.k0_mix {ρ : Type} (N : Nat) (K : AV → Heap → Option ρ) : mixK (Q46.fin N K .ret) (Q46.k0 N K) = (Q46.k0 N K) := by
  funext e s; cases e <;> kernel_rfl
def Q46.st0 (p0 : Int) (size1 : Int) (rv4 : Nat → Int) (x5 : Int) (gv6 : Nat → Int) : St := ⟨sl 114 [(4, .sptr [(0, 2), (1, 1104)]), (5, .sptr [(2, 2), (3, 1104)]), (6, .sptr [(4, 2)]), (25, .int .i64 ((rv4 1))), (26, .int .i64 (x5))], [⟨true, .flat 2 (.ints .i64 (fun _ => 0))⟩, ⟨true, .flat 1104 (.ints .u8 (fun _ => 0))⟩, ⟨true, .flat 2 (.ints .i64 (upd (upd (fun _ => 0) 0 p0) 1 size1))⟩, ⟨true, .flat 1104 (.ints .u8 gv6)⟩, ⟨true, .flat 2 (.ints .i64 rv4)⟩]⟩
def Q46.sx0_0 (p0 : Int) (size1 : Int) (rv4 : Nat → Int) (ov14 : Nat → Int) : St := ⟨sl 114 [(4, .sptr [(0, 2), (1, 1104)]), (5, .sptr [(2, 2), (3, 1104)]), (6, .sptr [(4, 2)])], [⟨true, .flat 2 (.ints .i64 (fun _ => 0))⟩, ⟨true, .flat 1104 (.ints .u8 (fun _ => 0))⟩, ⟨true, .flat 2 (.ints .i64 (upd (upd (fun _ => 0) 0 p0) 1 size1))⟩, ⟨true, .flat 1104 (.ints .u8 ov14)⟩, ⟨true, .flat 2 (.ints .i64 rv4)⟩]⟩
def Q46.k1g {ρ : Type} (N : Nat) (L0 : St → Option ρ) (kv : XE → St → Option ρ) : XE → St → Option ρ := (blockK Q46.kp 0 2 (blockK Q46.kp 0 1 (seqK (xcode (E46 N) ents Q46.kp 0 N (cB (cB (cB (cL (cK (cB (cA (cB (cB (cB Q46.bd)))))))))) 0) (roundK Q46.kp 0 0 L0 kv))))
theorem Q46.k1_mix {ρ : Type} (N : Nat) (K : AV → Heap → Option ρ) (L0 : St → Option ρ) : mixK (Q46.fin N K .ret) (Q46.k1g N L0 (Q46.k0 N K)) = (Q46.k1g N L0 (Q46.k0 N K)) := by
  funext e s; cases e <;> kernel_rfl
def Q46.st1 (p0 : Int) (size1 : Int) (rv4 : Nat → Int) (x5 : Int) (x7 : Int) (gv8 : Nat → Int) : St := ⟨sl 114 [(4, .sptr [(0, 2), (1, 1104)]), (5, .sptr [(2, 2), (3, 1104)]), (6, .sptr [(4, 2)]), (7, .int .i64 (x5)), (25, .int .i64 ((rv4 1))), (26, .int .i64 (x5)), (30, .int .i64 ((rv4 1))), (31, .int .i64 (x7))], [⟨true, .flat 2 (.ints .i64 (fun _ => 0))⟩, ⟨true, .flat 1104 (.ints .u8 (fun _ => 0))⟩, ⟨true, .flat 2 (.ints .i64 (upd (upd (fun _ => 0) 0 p0) 1 size1))⟩, ⟨true, .flat 1104 (.ints .u8 gv8)⟩, ⟨true, .flat 2 (.ints .i64 rv4)⟩]⟩
def Q46.sx1_0 (p0 : Int) (size1 : Int) (rv4 : Nat → Int) (x5 : Int) (ov13 : Nat → Int) : St := ⟨sl 114 [(4, .sptr [(0, 2), (1, 1104)]), (5, .sptr [(2, 2), (3, 1104)]), (6, .sptr [(4, 2)]), (25, .int .i64 ((rv4 1))), (26, .int .i64 (x5))], [⟨true, .flat 2 (.ints .i64 (fun _ => 0))⟩, ⟨true, .flat 1104 (.ints .u8 (fun _ => 0))⟩, ⟨true, .flat 2 (.ints .i64 (upd (upd (fun _ => 0) 0 p0) 1 size1))⟩, ⟨true, .flat 1104 (.ints .u8 ov13)⟩, ⟨true, .flat 2 (.ints .i64 rv4)⟩]⟩
def Q46.k2 {ρ : Type} (N : Nat) (K : AV → Heap → Option ρ) : XE → St → Option ρ := (blockK Q46.kp 0 4 (seqK (xcode (E46 N) ents Q46.kp 0 N (cB (cB (cB (cB (cB (cB (cB Q46.bd))))))) 0) (Q46.fin N K)))
theorem Q46.k2_mix {ρ : Type} (N : Nat) (K : AV → Heap → Option ρ) : mixK (Q46.fin N K .ret) (Q46.k2 N K) = (Q46.k2 N K) := by
  funext e s; cases e <;> kernel_rfl
def Q46.st2 (p0 : Int) (size1 : Int) (rv4 : Nat → Int) (rv17 : Nat → Int) (x18 : Int) (gv19 : Nat → Int) : St := ⟨sl 114 [(4, .sptr [(0, 2), (1, 1104)]), (5, .sptr [(2, 2), (3, 1104)]), (6, .sptr [(4, 2)]), (11, .sptr [(5, 64)]), (61, .int .i64 ((rv4 1))), (62, .int .i64 (x18))], [⟨true, .flat 2 (.ints .i64 (fun _ => 0))⟩, ⟨true, .flat 1104 (.ints .u8 (fun _ => 0))⟩, ⟨true, .flat 2 (.ints .i64 (upd (upd (fun _ => 0) 0 p0) 1 size1))⟩, ⟨true, .flat 1104 (.ints .u8 gv19)⟩, ⟨true, .flat 2 (.ints .i64 rv4)⟩, ⟨true, .flat 64 (.ints .u8 rv17)⟩]⟩
def Q46.sx2_0 (p0 : Int) (size1 : Int) (ov41 : Nat → Int) : St := ⟨sl 114 [(4, .sptr [(0, 2), (1, 1104)]), (5, .sptr [(2, 2), (3, 1104)])], [⟨true, .flat 2 (.ints .i64 (fun _ => 0))⟩, ⟨true, .flat 1104 (.ints .u8 (fun _ => 0))⟩, ⟨true, .flat 2 (.ints .i64 (upd (upd (fun _ => 0) 0 p0) 1 size1))⟩, ⟨true, .flat 1104 (.ints .u8 ov41)⟩]⟩
def Q46.k3g {ρ : Type} (N : Nat) (L2 : St → Option ρ) (kv : XE → St → Option ρ) : XE → St → Option ρ := (blockK Q46.kp 0 6 (seqK (xcode (E46 N) ents Q46.kp 0 N (cB (cB (cB (cB (cK (cA (cB (cB (cL (cK (cB (cA (cB (cB (cB (cB (cB (cB Q46.bd)))))))))))))))))) 5) (blockK Q46.kp 0 5 (seqK (xcode (E46 N) ents Q46.kp 0 N (cB (cB (cB (cL (cK (cB (cA (cB (cB (cB (cB (cB (cB Q46.bd))))))))))))) 4) (roundK Q46.kp 0 4 L2 kv)))))
theorem Q46.k3_mix {ρ : Type} (N : Nat) (K : AV → Heap → Option ρ) (L2 : St → Option ρ) : mixK (Q46.fin N K .ret) (Q46.k3g N L2 (Q46.k2 N K)) = (Q46.k3g N L2 (Q46.k2 N K)) := by
  funext e s; cases e <;> kernel_rfl
def Q46.st3 (p0 : Int) (size1 : Int) (rv4 : Nat → Int) (rv17 : Nat → Int) (x18 : Int) (gv19 : Nat → Int) (x23 : Int) (gv24 : Nat → Int) (gv25 : Nat → Int) : St := ⟨sl 114 [(4, .sptr [(0, 2), (1, 1104)]), (5, .sptr [(2, 2), (3, 1104)]), (6, .sptr [(4, 2)]), (11, .sptr [(5, 64)]), (12, .int .i64 (x18)), (13, .sptr [(6, 64)]), (14, .sptr [(7, 8)]), (61, .int .i64 ((rv4 1))), (62, .int .i64 (x18)), (78, .slice true 8 0 2 (.exact 2) 1), (79, .int .i64 2), (80, .int .i64 (x23))], [⟨true, .flat 2 (.ints .i64 (fun _ => 0))⟩, ⟨true, .flat 1104 (.ints .u8 (fun _ => 0))⟩, ⟨true, .flat 2 (.ints .i64 (upd (upd (fun _ => 0) 0 p0) 1 size1))⟩, ⟨true, .flat 1104 (.ints .u8 gv19)⟩, ⟨true, .flat 2 (.ints .i64 rv4)⟩, ⟨true, .flat 64 (.ints .u8 rv17)⟩, ⟨true, .flat 64 (.ints .u8 gv24)⟩, ⟨true, .flat 8 (.ints .u8 gv25)⟩, ⟨true, .flat 2 (.ints .i64 (upd (upd (fun _ => 0) 0 2) 1 4))⟩]⟩
def Q46.sx3_0 (p0 : Int) (size1 : Int) (rv4 : Nat → Int) (rv17 : Nat → Int) (x18 : Int) (gv19 : Nat → Int) (ov30 : Nat → Int) (ov31 : Nat → Int) : St := ⟨sl 114 [(4, .sptr [(0, 2), (1, 1104)]), (5, .sptr [(2, 2), (3, 1104)]), (6, .sptr [(4, 2)]), (11, .sptr [(5, 64)]), (12, .int .i64 (x18)), (13, .sptr [(6, 64)]), (14, .sptr [(7, 8)]), (61, .int .i64 ((rv4 1))), (62, .int .i64 (x18))], [⟨true, .flat 2 (.ints .i64 (fun _ => 0))⟩, ⟨true, .flat 1104 (.ints .u8 (fun _ => 0))⟩, ⟨true, .flat 2 (.ints .i64 (upd (upd (fun _ => 0) 0 p0) 1 size1))⟩, ⟨true, .flat 1104 (.ints .u8 gv19)⟩, ⟨true, .flat 2 (.ints .i64 rv4)⟩, ⟨true, .flat 64 (.ints .u8 rv17)⟩, ⟨true, .flat 64 (.ints .u8 ov30)⟩, ⟨true, .flat 8 (.ints .u8 ov31)⟩]⟩
def Q46.k4g {ρ : Type} (N : Nat) (L2 : St → Option ρ) (kv : XE → St → Option ρ) : XE → St → Option ρ := (blockK Q46.kp 0 6 (seqK (xcode (E46 N) ents Q46.kp 0 N (cB (cB (cB (cB (cK (cA (cB (cB (cL (cK (cB (cA (cB (cB (cB (cB (cB (cB Q46.bd)))))))))))))))))) 5) (blockK Q46.kp 0 5 (seqK (xcode (E46 N) ents Q46.kp 0 N (cB (cB (cB (cL (cK (cB (cA (cB (cB (cB (cB (cB (cB Q46.bd))))))))))))) 4) (roundK Q46.kp 0 4 L2 kv)))))
theorem Q46.k4_mix {ρ : Type} (N : Nat) (K : AV → Heap → Option ρ) (L2 : St → Option ρ) : mixK (Q46.fin N K .ret) (Q46.k4g N L2 (Q46.k2 N K)) = (Q46.k4g N L2 (Q46.k2 N K)) := by
  funext e s; cases e <;> kernel_rfl
def Q46.st4 (p0 : Int) (size1 : Int) (rv4 : Nat → Int) (rv17 : Nat → Int) (x18 : Int) (gv19 : Nat → Int) (x32 : Int) (gv33 : Nat → Int) (gv34 : Nat → Int) : St := ⟨sl 114 [(4, .sptr [(0, 2), (1, 1104)]), (5, .sptr [(2, 2), (3, 1104)]), (6, .sptr [(4, 2)]), (11, .sptr [(5, 64)]), (12, .int .i64 (x18)), (13, .sptr [(6, 64)]), (14, .sptr [(7, 8)]), (61, .int .i64 ((rv4 1))), (62, .int .i64 (x18)), (78, .slice true 8 0 2 (.exact 2) 1), (79, .int .i64 2), (80, .int .i64 (x32))], [⟨true, .flat 2 (.ints .i64 (fun _ => 0))⟩, ⟨true, .flat 1104 (.ints .u8 (fun _ => 0))⟩, ⟨true, .flat 2 (.ints .i64 (upd (upd (fun _ => 0) 0 p0) 1 size1))⟩, ⟨true, .flat 1104 (.ints .u8 gv19)⟩, ⟨true, .flat 2 (.ints .i64 rv4)⟩, ⟨true, .flat 64 (.ints .u8 rv17)⟩, ⟨true, .flat 64 (.ints .u8 gv33)⟩, ⟨true, .flat 8 (.ints .u8 gv34)⟩, ⟨true, .flat 2 (.ints .i64 (upd (upd (fun _ => 0) 0 2) 1 4))⟩]⟩
def Q46.sx4_0 (p0 : Int) (size1 : Int) (rv4 : Nat → Int) (rv17 : Nat → Int) (x18 : Int) (gv19 : Nat → Int) (ov39 : Nat → Int) (ov40 : Nat → Int) : St := ⟨sl 114 [(4, .sptr [(0, 2), (1, 1104)]), (5, .sptr [(2, 2), (3, 1104)]), (6, .sptr [(4, 2)]), (11, .sptr [(5, 64)]), (12, .int .i64 (x18)), (13, .sptr [(6, 64)]), (14, .sptr [(7, 8)]), (61, .int .i64 ((rv4 1))), (62, .int .i64 (x18))], [⟨true, .flat 2 (.ints .i64 (fun _ => 0))⟩, ⟨true, .flat 1104 (.ints .u8 (fun _ => 0))⟩, ⟨true, .flat 2 (.ints .i64 (upd (upd (fun _ => 0) 0 p0) 1 size1))⟩, ⟨true, .flat 1104 (.ints .u8 gv19)⟩, ⟨true, .flat 2 (.ints .i64 rv4)⟩, ⟨true, .flat 64 (.ints .u8 rv17)⟩, ⟨true, .flat 64 (.ints .u8 ov39)⟩, ⟨true, .flat 8 (.ints .u8 ov40)⟩]⟩
theorem Q46.b1_gen {ρ : Type} (N : Nat) (K : AV → Heap → Option ρ) (L1 : St → Option ρ) (kv : XE → St → Option ρ) (p0 : Int) (size1 : Int) (rv4 : Nat → Int) (x5 : Int) (x7 : Int) (gv8 : Nat → Int) :
    xcode (E46 N) ents Q46.kp 0 N (cL (cK (cB (cB (cK (cA (cB (cB (cL (cK (cB (cA (cB (cB (cB Q46.bd))))))))))))))) 2 (Q46.st1 p0 size1 rv4 x5 x7 gv8) (roundK Q46.kp 0 2 L1 (mixK (Q46.fin N K .ret) kv)) = (Q46.b1 N (fun d0 d1 => K (.agg [⟨.i64, 2, d0⟩, ⟨.u8, 1104, d1⟩]) []) (fun x7 gv8 => L1 (Q46.st1 p0 size1 rv4 x5 x7 gv8)) (fun ov13 => kv (.exit 2) (Q46.sx1_0 p0 size1 rv4 x5 ov13)) rv4 x5 x7 gv8) := by kernel_rfl
theorem Q46.b1_eq {ρ : Type} (N : Nat) (K : AV → Heap → Option ρ) (L0 : St → Option ρ) (L1 : St → Option ρ) (p0 : Int) (size1 : Int) (rv4 : Nat → Int) (x5 : Int) (x7 : Int) (gv8 : Nat → Int) :
    xcode (E46 N) ents Q46.kp 0 N (cL (cK (cB (cB (cK (cA (cB (cB (cL (cK (cB (cA (cB (cB (cB Q46.bd))))))))))))))) 2 (Q46.st1 p0 size1 rv4 x5 x7 gv8) (roundK Q46.kp 0 2 L1 (Q46.k1g N L0 (Q46.k0 N K))) = (Q46.b1 N (fun d0 d1 => K (.agg [⟨.i64, 2, d0⟩, ⟨.u8, 1104, d1⟩]) []) (fun x7 gv8 => L1 (Q46.st1 p0 size1 rv4 x5 x7 gv8)) (fun ov13 => (Q46.k1g N L0 (Q46.k0 N K)) (.exit 2) (Q46.sx1_0 p0 size1 rv4 x5 ov13)) rv4 x5 x7 gv8) := by
  have h := Q46.b1_gen N K L1 (Q46.k1g N L0 (Q46.k0 N K)) p0 size1 rv4 x5 x7 gv8
  rw [Q46.k1_mix] at h
  exact h
theorem Q46.a1_0_gen {ρ : Type} (N : Nat) (K : AV → Heap → Option ρ) (L0 : St → Option ρ) (kv : XE → St → Option ρ) (p0 : Int) (size1 : Int) (rv4 : Nat → Int) (x5 : Int) (ov13 : Nat → Int) :
    (Q46.k1g N L0 (mixK (Q46.fin N K .ret) kv)) (.exit 2) (Q46.sx1_0 p0 size1 rv4 x5 ov13) = (Q46.a1_0 N (fun d0 d1 => K (.agg [⟨.i64, 2, d0⟩, ⟨.u8, 1104, d1⟩]) []) (fun x5 gv6 => L0 (Q46.st0 p0 size1 rv4 x5 gv6)) (fun ov14 => kv (.exit 0) (Q46.sx0_0 p0 size1 rv4 ov14)) x5 ov13) := by kernel_rfl
theorem Q46.a1_0_eq {ρ : Type} (N : Nat) (K : AV → Heap → Option ρ) (L0 : St → Option ρ) (p0 : Int) (size1 : Int) (rv4 : Nat → Int) (x5 : Int) (ov13 : Nat → Int) :
    (Q46.k1g N L0 (Q46.k0 N K)) (.exit 2) (Q46.sx1_0 p0 size1 rv4 x5 ov13) = (Q46.a1_0 N (fun d0 d1 => K (.agg [⟨.i64, 2, d0⟩, ⟨.u8, 1104, d1⟩]) []) (fun x5 gv6 => L0 (Q46.st0 p0 size1 rv4 x5 gv6)) (fun ov14 => (Q46.k0 N K) (.exit 0) (Q46.sx0_0 p0 size1 rv4 ov14)) x5 ov13) := by
  have h := Q46.a1_0_gen N K L0 (Q46.k0 N K) p0 size1 rv4 x5 ov13
  rw [Q46.k0_mix] at h
  exact h
theorem Q46.b3_gen {ρ : Type} (N : Nat) (K : AV → Heap → Option ρ) (L3 : St → Option ρ) (kv : XE → St → Option ρ) (p0 : Int) (size1 : Int) (rv4 : Nat → Int) (rv17 : Nat → Int) (x18 : Int) (gv19 : Nat → Int) (x23 : Int) (gv24 : Nat → Int) (gv25 : Nat → Int) :
    xcode (E46 N) ents Q46.kp 0 N (cL (cK (cB (cA (cB (cB (cB (cK (cA (cB (cB (cL (cK (cB (cA (cB (cB (cB (cB (cB (cB Q46.bd))))))))))))))))))))) 6 (Q46.st3 p0 size1 rv4 rv17 x18 gv19 x23 gv24 gv25) (roundK Q46.kp 0 6 L3 (mixK (Q46.fin N K .ret) kv)) = (Q46.b3 N (fun d0 d1 => K (.agg [⟨.i64, 2, d0⟩, ⟨.u8, 1104, d1⟩]) []) (fun x23 gv24 gv25 => L3 (Q46.st3 p0 size1 rv4 rv17 x18 gv19 x23 gv24 gv25)) (fun ov30 ov31 => kv (.exit 6) (Q46.sx3_0 p0 size1 rv4 rv17 x18 gv19 ov30 ov31)) p0 size1 rv4 x18 gv19 x23 gv24 gv25) := by kernel_rfl
theorem Q46.b3_eq {ρ : Type} (N : Nat) (K : AV → Heap → Option ρ) (L2 : St → Option ρ) (L3 : St → Option ρ) (p0 : Int) (size1 : Int) (rv4 : Nat → Int) (rv17 : Nat → Int) (x18 : Int) (gv19 : Nat → Int) (x23 : Int) (gv24 : Nat → Int) (gv25 : Nat → Int) :
    xcode (E46 N) ents Q46.kp 0 N (cL (cK (cB (cA (cB (cB (cB (cK (cA (cB (cB (cL (cK (cB (cA (cB (cB (cB (cB (cB (cB Q46.bd))))))))))))))))))))) 6 (Q46.st3 p0 size1 rv4 rv17 x18 gv19 x23 gv24 gv25) (roundK Q46.kp 0 6 L3 (Q46.k3g N L2 (Q46.k2 N K))) = (Q46.b3 N (fun d0 d1 => K (.agg [⟨.i64, 2, d0⟩, ⟨.u8, 1104, d1⟩]) []) (fun x23 gv24 gv25 => L3 (Q46.st3 p0 size1 rv4 rv17 x18 gv19 x23 gv24 gv25)) (fun ov30 ov31 => (Q46.k3g N L2 (Q46.k2 N K)) (.exit 6) (Q46.sx3_0 p0 size1 rv4 rv17 x18 gv19 ov30 ov31)) p0 size1 rv4 x18 gv19 x23 gv24 gv25) := by
  have h := Q46.b3_gen N K L3 (Q46.k3g N L2 (Q46.k2 N K)) p0 size1 rv4 rv17 x18 gv19 x23 gv24 gv25
  rw [Q46.k3_mix] at h
  exact h
theorem Q46.a3_0_gen {ρ : Type} (N : Nat) (K : AV → Heap → Option ρ) (L2 : St → Option ρ) (kv : XE → St → Option ρ) (p0 : Int) (size1 : Int) (rv4 : Nat → Int) (rv17 : Nat → Int) (x18 : Int) (gv19 : Nat → Int) (ov30 : Nat → Int) (ov31 : Nat → Int) :
    (Q46.k3g N L2 (mixK (Q46.fin N K .ret) kv)) (.exit 6) (Q46.sx3_0 p0 size1 rv4 rv17 x18 gv19 ov30 ov31) = (Q46.a3_0 N (fun d0 d1 => K (.agg [⟨.i64, 2, d0⟩, ⟨.u8, 1104, d1⟩]) []) (fun x18 gv19 => L2 (Q46.st2 p0 size1 rv4 rv17 x18 gv19)) (fun ov41 => kv (.exit 4) (Q46.sx2_0 p0 size1 ov41)) x18 gv19 ov30 ov31) := by kernel_rfl
theorem Q46.a3_0_eq {ρ : Type} (N : Nat) (K : AV → Heap → Option ρ) (L2 : St → Option ρ) (p0 : Int) (size1 : Int) (rv4 : Nat → Int) (rv17 : Nat → Int) (x18 : Int) (gv19 : Nat → Int) (ov30 : Nat → Int) (ov31 : Nat → Int) :
    (Q46.k3g N L2 (Q46.k2 N K)) (.exit 6) (Q46.sx3_0 p0 size1 rv4 rv17 x18 gv19 ov30 ov31) = (Q46.a3_0 N (fun d0 d1 => K (.agg [⟨.i64, 2, d0⟩, ⟨.u8, 1104, d1⟩]) []) (fun x18 gv19 => L2 (Q46.st2 p0 size1 rv4 rv17 x18 gv19)) (fun ov41 => (Q46.k2 N K) (.exit 4) (Q46.sx2_0 p0 size1 ov41)) x18 gv19 ov30 ov31) := by
  have h := Q46.a3_0_gen N K L2 (Q46.k2 N K) p0 size1 rv4 rv17 x18 gv19 ov30 ov31
  rw [Q46.k2_mix] at h
  exact h
theorem Q46.b4_gen {ρ : Type} (N : Nat) (K : AV → Heap → Option ρ) (L4 : St → Option ρ) (kv : XE → St → Option ρ) (p0 : Int) (size1 : Int) (rv4 : Nat → Int) (rv17 : Nat → Int) (x18 : Int) (gv19 : Nat → Int) (x32 : Int) (gv33 : Nat → Int) (gv34 : Nat → Int) :
    xcode (E46 N) ents Q46.kp 0 N (cL (cK (cB (cA (cB (cB (cB (cK (cA (cB (cB (cL (cK (cB (cA (cB (cB (cB (cB (cB (cB Q46.bd))))))))))))))))))))) 6 (Q46.st4 p0 size1 rv4 rv17 x18 gv19 x32 gv33 gv34) (roundK Q46.kp 0 6 L4 (mixK (Q46.fin N K .ret) kv)) = (Q46.b4 N (fun d0 d1 => K (.agg [⟨.i64, 2, d0⟩, ⟨.u8, 1104, d1⟩]) []) (fun x32 gv33 gv34 => L4 (Q46.st4 p0 size1 rv4 rv17 x18 gv19 x32 gv33 gv34)) (fun ov39 ov40 => kv (.exit 6) (Q46.sx4_0 p0 size1 rv4 rv17 x18 gv19 ov39 ov40)) p0 size1 rv4 x18 gv19 x32 gv33 gv34) := by kernel_rfl
theorem Q46.b4_eq {ρ : Type} (N : Nat) (K : AV → Heap → Option ρ) (L2 : St → Option ρ) (L4 : St → Option ρ) (p0 : Int) (size1 : Int) (rv4 : Nat → Int) (rv17 : Nat → Int) (x18 : Int) (gv19 : Nat → Int) (x32 : Int) (gv33 : Nat → Int) (gv34 : Nat → Int) :
    xcode (E46 N) ents Q46.kp 0 N (cL (cK (cB (cA (cB (cB (cB (cK (cA (cB (cB (cL (cK (cB (cA (cB (cB (cB (cB (cB (cB Q46.bd))))))))))))))))))))) 6 (Q46.st4 p0 size1 rv4 rv17 x18 gv19 x32 gv33 gv34) (roundK Q46.kp 0 6 L4 (Q46.k4g N L2 (Q46.k2 N K))) = (Q46.b4 N (fun d0 d1 => K (.agg [⟨.i64, 2, d0⟩, ⟨.u8, 1104, d1⟩]) []) (fun x32 gv33 gv34 => L4 (Q46.st4 p0 size1 rv4 rv17 x18 gv19 x32 gv33 gv34)) (fun ov39 ov40 => (Q46.k4g N L2 (Q46.k2 N K)) (.exit 6) (Q46.sx4_0 p0 size1 rv4 rv17 x18 gv19 ov39 ov40)) p0 size1 rv4 x18 gv19 x32 gv33 gv34) := by
  have h := Q46.b4_gen N K L4 (Q46.k4g N L2 (Q46.k2 N K)) p0 size1 rv4 rv17 x18 gv19 x32 gv33 gv34
  rw [Q46.k4_mix] at h
  exact h
theorem Q46.a4_0_gen {ρ : Type} (N : Nat) (K : AV → Heap → Option ρ) (L2 : St → Option ρ) (kv : XE → St → Option ρ) (p0 : Int) (size1 : Int) (rv4 : Nat → Int) (rv17 : Nat → Int) (x18 : Int) (gv19 : Nat → Int) (ov39 : Nat → Int) (ov40 : Nat → Int) :
    (Q46.k4g N L2 (mixK (Q46.fin N K .ret) kv)) (.exit 6) (Q46.sx4_0 p0 size1 rv4 rv17 x18 gv19 ov39 ov40) = (Q46.a4_0 N (fun d0 d1 => K (.agg [⟨.i64, 2, d0⟩, ⟨.u8, 1104, d1⟩]) []) (fun x18 gv19 => L2 (Q46.st2 p0 size1 rv4 rv17 x18 gv19)) (fun ov41 => kv (.exit 4) (Q46.sx2_0 p0 size1 ov41)) x18 gv19 ov39 ov40) := by kernel_rfl
theorem Q46.a4_0_eq {ρ : Type} (N : Nat) (K : AV → Heap → Option ρ) (L2 : St → Option ρ) (p0 : Int) (size1 : Int) (rv4 : Nat → Int) (rv17 : Nat → Int) (x18 : Int) (gv19 : Nat → Int) (ov39 : Nat → Int) (ov40 : Nat → Int) :
    (Q46.k4g N L2 (Q46.k2 N K)) (.exit 6) (Q46.sx4_0 p0 size1 rv4 rv17 x18 gv19 ov39 ov40) = (Q46.a4_0 N (fun d0 d1 => K (.agg [⟨.i64, 2, d0⟩, ⟨.u8, 1104, d1⟩]) []) (fun x18 gv19 => L2 (Q46.st2 p0 size1 rv4 rv17 x18 gv19)) (fun ov41 => (Q46.k2 N K) (.exit 4) (Q46.sx2_0 p0 size1 ov41)) x18 gv19 ov39 ov40) := by
  have h := Q46.a4_0_gen N K L2 (Q46.k2 N K) p0 size1 rv4 rv17 x18 gv19 ov39 ov40
  rw [Q46.k2_mix] at h
  exact h
theorem Q46.b2_gen {ρ : Type} (N : Nat) (K : AV → Heap → Option ρ) (L2 : St → Option ρ) (kv : XE → St → Option ρ) (p0 : Int) (size1 : Int) (rv4 : Nat → Int) (rv17 : Nat → Int) (x18 : Int) (gv19 : Nat → Int) :
    xcode (E46 N) ents Q46.kp 0 N (cL (cK (cB (cA (cB (cB (cB (cB (cB (cB Q46.bd)))))))))) 4 (Q46.st2 p0 size1 rv4 rv17 x18 gv19) (roundK Q46.kp 0 4 L2 (mixK (Q46.fin N K .ret) kv)) = (Q46.b2 N (fun d0 d1 => K (.agg [⟨.i64, 2, d0⟩, ⟨.u8, 1104, d1⟩]) []) (fun x23 gv24 gv25 => xloop (xcode (E46 N) ents Q46.kp 0 N (cL (cK (cB (cA (cB (cB (cB (cK (cA (cB (cB (cL (cK (cB (cA (cB (cB (cB (cB (cB (cB Q46.bd))))))))))))))))))))) 6) Q46.kp 0 6 N (Q46.st3 p0 size1 rv4 rv17 x18 gv19 x23 gv24 gv25) (Q46.k3g N L2 (mixK (Q46.fin N K .ret) kv))) (fun x32 gv33 gv34 => xloop (xcode (E46 N) ents Q46.kp 0 N (cL (cK (cB (cA (cB (cB (cB (cK (cA (cB (cB (cL (cK (cB (cA (cB (cB (cB (cB (cB (cB Q46.bd))))))))))))))))))))) 6) Q46.kp 0 6 N (Q46.st4 p0 size1 rv4 rv17 x18 gv19 x32 gv33 gv34) (Q46.k4g N L2 (mixK (Q46.fin N K .ret) kv))) (fun x18 gv19 => L2 (Q46.st2 p0 size1 rv4 rv17 x18 gv19)) (fun ov41 => kv (.exit 4) (Q46.sx2_0 p0 size1 ov41)) p0 size1 rv4 rv17 x18 gv19) := by kernel_rfl
theorem Q46.b2_eq {ρ : Type} (N : Nat) (K : AV → Heap → Option ρ) (L2 : St → Option ρ) (p0 : Int) (size1 : Int) (rv4 : Nat → Int) (rv17 : Nat → Int) (x18 : Int) (gv19 : Nat → Int) :
    xcode (E46 N) ents Q46.kp 0 N (cL (cK (cB (cA (cB (cB (cB (cB (cB (cB Q46.bd)))))))))) 4 (Q46.st2 p0 size1 rv4 rv17 x18 gv19) (roundK Q46.kp 0 4 L2 (Q46.k2 N K)) = (Q46.b2 N (fun d0 d1 => K (.agg [⟨.i64, 2, d0⟩, ⟨.u8, 1104, d1⟩]) []) (fun x23 gv24 gv25 => xloop (xcode (E46 N) ents Q46.kp 0 N (cL (cK (cB (cA (cB (cB (cB (cK (cA (cB (cB (cL (cK (cB (cA (cB (cB (cB (cB (cB (cB Q46.bd))))))))))))))))))))) 6) Q46.kp 0 6 N (Q46.st3 p0 size1 rv4 rv17 x18 gv19 x23 gv24 gv25) (Q46.k3g N L2 (Q46.k2 N K))) (fun x32 gv33 gv34 => xloop (xcode (E46 N) ents Q46.kp 0 N (cL (cK (cB (cA (cB (cB (cB (cK (cA (cB (cB (cL (cK (cB (cA (cB (cB (cB (cB (cB (cB Q46.bd))))))))))))))))))))) 6) Q46.kp 0 6 N (Q46.st4 p0 size1 rv4 rv17 x18 gv19 x32 gv33 gv34) (Q46.k4g N L2 (Q46.k2 N K))) (fun x18 gv19 => L2 (Q46.st2 p0 size1 rv4 rv17 x18 gv19)) (fun ov41 => (Q46.k2 N K) (.exit 4) (Q46.sx2_0 p0 size1 ov41)) p0 size1 rv4 rv17 x18 gv19) := by
  have h := Q46.b2_gen N K L2 (Q46.k2 N K) p0 size1 rv4 rv17 x18 gv19
  rw [Q46.k2_mix] at h
  exact h
theorem Q46.a2_0_eq {ρ : Type} (N : Nat) (K : AV → Heap → Option ρ) (p0 : Int) (size1 : Int) (ov41 : Nat → Int) :
    (Q46.k2 N K) (.exit 4) (Q46.sx2_0 p0 size1 ov41) = (Q46.a2_0 N (fun d0 d1 => K (.agg [⟨.i64, 2, d0⟩, ⟨.u8, 1104, d1⟩]) []) p0 size1 ov41) := by kernel_rfl
theorem Q46.b0_gen {ρ : Type} (N : Nat) (K : AV → Heap → Option ρ) (L0 : St → Option ρ) (kv : XE → St → Option ρ) (p0 : Int) (size1 : Int) (rv4 : Nat → Int) (x5 : Int) (gv6 : Nat → Int) :
    xcode (E46 N) ents Q46.kp 0 N (cL (cK (cB (cA (cB (cB (cB Q46.bd))))))) 0 (Q46.st0 p0 size1 rv4 x5 gv6) (roundK Q46.kp 0 0 L0 (mixK (Q46.fin N K .ret) kv)) = (Q46.b0 N (fun d0 d1 => K (.agg [⟨.i64, 2, d0⟩, ⟨.u8, 1104, d1⟩]) []) (fun x7 gv8 => xloop (xcode (E46 N) ents Q46.kp 0 N (cL (cK (cB (cB (cK (cA (cB (cB (cL (cK (cB (cA (cB (cB (cB Q46.bd))))))))))))))) 2) Q46.kp 0 2 N (Q46.st1 p0 size1 rv4 x5 x7 gv8) (Q46.k1g N L0 (mixK (Q46.fin N K .ret) kv))) (fun x5 gv6 => L0 (Q46.st0 p0 size1 rv4 x5 gv6)) (fun ov14 => kv (.exit 0) (Q46.sx0_0 p0 size1 rv4 ov14)) rv4 x5 gv6) := by kernel_rfl
theorem Q46.b0_eq {ρ : Type} (N : Nat) (K : AV → Heap → Option ρ) (L0 : St → Option ρ) (p0 : Int) (size1 : Int) (rv4 : Nat → Int) (x5 : Int) (gv6 : Nat → Int) :
    xcode (E46 N) ents Q46.kp 0 N (cL (cK (cB (cA (cB (cB (cB Q46.bd))))))) 0 (Q46.st0 p0 size1 rv4 x5 gv6) (roundK Q46.kp 0 0 L0 (Q46.k0 N K)) = (Q46.b0 N (fun d0 d1 => K (.agg [⟨.i64, 2, d0⟩, ⟨.u8, 1104, d1⟩]) []) (fun x7 gv8 => xloop (xcode (E46 N) ents Q46.kp 0 N (cL (cK (cB (cB (cK (cA (cB (cB (cL (cK (cB (cA (cB (cB (cB Q46.bd))))))))))))))) 2) Q46.kp 0 2 N (Q46.st1 p0 size1 rv4 x5 x7 gv8) (Q46.k1g N L0 (Q46.k0 N K))) (fun x5 gv6 => L0 (Q46.st0 p0 size1 rv4 x5 gv6)) (fun ov14 => (Q46.k0 N K) (.exit 0) (Q46.sx0_0 p0 size1 rv4 ov14)) rv4 x5 gv6) := by
  have h := Q46.b0_gen N K L0 (Q46.k0 N K) p0 size1 rv4 x5 gv6
  rw [Q46.k0_mix] at h
  exact h
theorem Q46.a0_0_eq {ρ : Type} (N : Nat) (K : AV → Heap → Option ρ) (p0 : Int) (size1 : Int) (rv4 : Nat → Int) (ov14 : Nat → Int) :
    (Q46.k0 N K) (.exit 0) (Q46.sx0_0 p0 size1 rv4 ov14) = (Q46.a0_0 N (fun d0 d1 => K (.agg [⟨.i64, 2, d0⟩, ⟨.u8, 1104, d1⟩]) []) (fun rv17 x18 gv19 => xloop (xcode (E46 N) ents Q46.kp 0 N (cL (cK (cB (cA (cB (cB (cB (cB (cB (cB Q46.bd)))))))))) 4) Q46.kp 0 4 N (Q46.st2 p0 size1 rv4 rv17 x18 gv19) (Q46.k2 N K)) rv4 ov14) := by kernel_rfl
theorem Q46.l1_eq {ρ : Type} (N : Nat) (K : AV → Heap → Option ρ) (L0 : St → Option ρ) (p0 : Int) (size1 : Int) (rv4 : Nat → Int) (x5 : Int) :
    ∀ (m : Nat) (x7 : Int) (gv8 : Nat → Int), xloop (xcode (E46 N) ents Q46.kp 0 N (cL (cK (cB (cB (cK (cA (cB (cB (cL (cK (cB (cA (cB (cB (cB Q46.bd))))))))))))))) 2) Q46.kp 0 2 m (Q46.st1 p0 size1 rv4 x5 x7 gv8) (Q46.k1g N L0 (Q46.k0 N K)) = (Q46.l1 N (fun d0 d1 => K (.agg [⟨.i64, 2, d0⟩, ⟨.u8, 1104, d1⟩]) []) rv4 x5 (fun ov13 => (Q46.k1g N L0 (Q46.k0 N K)) (.exit 2) (Q46.sx1_0 p0 size1 rv4 x5 ov13)) m x7 gv8) := by
  intro m
  induction m with
  | zero => intros; rfl
  | succ m ih =>
    intro x7 gv8
    refine (Q46.b1_eq N K L0 (fun s => xloop (xcode (E46 N) ents Q46.kp 0 N (cL (cK (cB (cB (cK (cA (cB (cB (cL (cK (cB (cA (cB (cB (cB Q46.bd))))))))))))))) 2) Q46.kp 0 2 m s (Q46.k1g N L0 (Q46.k0 N K))) p0 size1 rv4 x5 x7 gv8).trans ?_
    simp only [ih]
    kernel_rfl
theorem Q46.l3_eq {ρ : Type} (N : Nat) (K : AV → Heap → Option ρ) (L2 : St → Option ρ) (p0 : Int) (size1 : Int) (rv4 : Nat → Int) (rv17 : Nat → Int) (x18 : Int) (gv19 : Nat → Int) :
    ∀ (m : Nat) (x23 : Int) (gv24 : Nat → Int) (gv25 : Nat → Int), xloop (xcode (E46 N) ents Q46.kp 0 N (cL (cK (cB (cA (cB (cB (cB (cK (cA (cB (cB (cL (cK (cB (cA (cB (cB (cB (cB (cB (cB Q46.bd))))))))))))))))))))) 6) Q46.kp 0 6 m (Q46.st3 p0 size1 rv4 rv17 x18 gv19 x23 gv24 gv25) (Q46.k3g N L2 (Q46.k2 N K)) = (Q46.l3 N (fun d0 d1 => K (.agg [⟨.i64, 2, d0⟩, ⟨.u8, 1104, d1⟩]) []) p0 size1 rv4 x18 gv19 (fun ov30 ov31 => (Q46.k3g N L2 (Q46.k2 N K)) (.exit 6) (Q46.sx3_0 p0 size1 rv4 rv17 x18 gv19 ov30 ov31)) m x23 gv24 gv25) := by
  intro m
  induction m with
  | zero => intros; rfl
  | succ m ih =>
    intro x23 gv24 gv25
    refine (Q46.b3_eq N K L2 (fun s => xloop (xcode (E46 N) ents Q46.kp 0 N (cL (cK (cB (cA (cB (cB (cB (cK (cA (cB (cB (cL (cK (cB (cA (cB (cB (cB (cB (cB (cB Q46.bd))))))))))))))))))))) 6) Q46.kp 0 6 m s (Q46.k3g N L2 (Q46.k2 N K))) p0 size1 rv4 rv17 x18 gv19 x23 gv24 gv25).trans ?_
    simp only [ih]
    kernel_rfl
theorem Q46.l4_eq {ρ : Type} (N : Nat) (K : AV → Heap → Option ρ) (L2 : St → Option ρ) (p0 : Int) (size1 : Int) (rv4 : Nat → Int) (rv17 : Nat → Int) (x18 : Int) (gv19 : Nat → Int) :
    ∀ (m : Nat) (x32 : Int) (gv33 : Nat → Int) (gv34 : Nat → Int), xloop (xcode (E46 N) ents Q46.kp 0 N (cL (cK (cB (cA (cB (cB (cB (cK (cA (cB (cB (cL (cK (cB (cA (cB (cB (cB (cB (cB (cB Q46.bd))))))))))))))))))))) 6) Q46.kp 0 6 m (Q46.st4 p0 size1 rv4 rv17 x18 gv19 x32 gv33 gv34) (Q46.k4g N L2 (Q46.k2 N K)) = (Q46.l4 N (fun d0 d1 => K (.agg [⟨.i64, 2, d0⟩, ⟨.u8, 1104, d1⟩]) []) p0 size1 rv4 x18 gv19 (fun ov39 ov40 => (Q46.k4g N L2 (Q46.k2 N K)) (.exit 6) (Q46.sx4_0 p0 size1 rv4 rv17 x18 gv19 ov39 ov40)) m x32 gv33 gv34) := by
  intro m
  induction m with
  | zero => intros; rfl
  | succ m ih =>
    intro x32 gv33 gv34
    refine (Q46.b4_eq N K L2 (fun s => xloop (xcode (E46 N) ents Q46.kp 0 N (cL (cK (cB (cA (cB (cB (cB (cK (cA (cB (cB (cL (cK (cB (cA (cB (cB (cB (cB (cB (cB Q46.bd))))))))))))))))))))) 6) Q46.kp 0 6 m s (Q46.k4g N L2 (Q46.k2 N K))) p0 size1 rv4 rv17 x18 gv19 x32 gv33 gv34).trans ?_
    simp only [ih]
    kernel_rfl
theorem Q46.l2_eq {ρ : Type} (N : Nat) (K : AV → Heap → Option ρ) (p0 : Int) (size1 : Int) (rv4 : Nat → Int) (rv17 : Nat → Int) :
    ∀ (m : Nat) (x18 : Int) (gv19 : Nat → Int), xloop (xcode (E46 N) ents Q46.kp 0 N (cL (cK (cB (cA (cB (cB (cB (cB (cB (cB Q46.bd)))))))))) 4) Q46.kp 0 4 m (Q46.st2 p0 size1 rv4 rv17 x18 gv19) (Q46.k2 N K) = (Q46.l2 N (fun d0 d1 => K (.agg [⟨.i64, 2, d0⟩, ⟨.u8, 1104, d1⟩]) []) p0 size1 rv4 rv17 (fun ov41 => (Q46.k2 N K) (.exit 4) (Q46.sx2_0 p0 size1 ov41)) m x18 gv19) := by
  intro m
  induction m with
  | zero => intros; rfl
  | succ m ih =>
    intro x18 gv19
    refine (Q46.b2_eq N K (fun s => xloop (xcode (E46 N) ents Q46.kp 0 N (cL (cK (cB (cA (cB (cB (cB (cB (cB (cB Q46.bd)))))))))) 4) Q46.kp 0 4 m s (Q46.k2 N K)) p0 size1 rv4 rv17 x18 gv19).trans ?_
    simp only [ih, Q46.l3_eq, Q46.a3_0_eq, Q46.l4_eq, Q46.a4_0_eq]
    kernel_rfl
theorem Q46.l0_eq {ρ : Type} (N : Nat) (K : AV → Heap → Option ρ) (p0 : Int) (size1 : Int) (rv4 : Nat → Int) :
    ∀ (m : Nat) (x5 : Int) (gv6 : Nat → Int), xloop (xcode (E46 N) ents Q46.kp 0 N (cL (cK (cB (cA (cB (cB (cB Q46.bd))))))) 0) Q46.kp 0 0 m (Q46.st0 p0 size1 rv4 x5 gv6) (Q46.k0 N K) = (Q46.l0 N (fun d0 d1 => K (.agg [⟨.i64, 2, d0⟩, ⟨.u8, 1104, d1⟩]) []) rv4 (fun ov14 => (Q46.k0 N K) (.exit 0) (Q46.sx0_0 p0 size1 rv4 ov14)) m x5 gv6) := by
  intro m
  induction m with
  | zero => intros; rfl
  | succ m ih =>
    intro x5 gv6
    refine (Q46.b0_eq N K (fun s => xloop (xcode (E46 N) ents Q46.kp 0 N (cL (cK (cB (cA (cB (cB (cB Q46.bd))))))) 0) Q46.kp 0 0 m s (Q46.k0 N K)) p0 size1 rv4 x5 gv6).trans ?_
    simp only [ih, Q46.l1_eq, Q46.a1_0_eq]
    kernel_rfl
theorem Q46.s_eq {ρ : Type} (N : Nat) (K : AV → Heap → Option ρ) (p0 : Int) (size1 : Int) :
    xbody (E46 N) ents Q46.kp N Try.f39 Q46.bd [.int .i64 (p0), .int .i64 (size1)] [] K = (Q46.s N (fun d0 d1 => K (.agg [⟨.i64, 2, d0⟩, ⟨.u8, 1104, d1⟩]) []) (fun rv4 x5 gv6 => xloop (xcode (E46 N) ents Q46.kp 0 N (cL (cK (cB (cA (cB (cB (cB Q46.bd))))))) 0) Q46.kp 0 0 N (Q46.st0 p0 size1 rv4 x5 gv6) (Q46.k0 N K)) p0 size1) := by kernel_rfl
theorem Q46.eq {ρ : Type} (N : Nat) (K : AV → Heap → Option ρ) (p0 : Int) (size1 : Int) :
    xbody (E46 N) ents Q46.kp N Try.f39 Q46.bd [.int .i64 (p0), .int .i64 (size1)] [] K = (Q46 N (fun d0 d1 => K (.agg [⟨.i64, 2, d0⟩, ⟨.u8, 1104, d1⟩]) []) p0 size1) := by
  refine (Q46.s_eq N K p0 size1).trans ?_
  simp only [Q46.l0_eq, Q46.a0_0_eq, Q46.l2_eq, Q46.a2_0_eq]
  kernel_rfl
def Q46.en (N : Nat) (ρ : Type) : List AV → Heap → (AV → Heap → Option ρ) → Option ρ
  | [.int .i64 (p0), .int .i64 (size1)], [], K => (Q46 N (fun d0 d1 => K (.agg [⟨.i64, 2, d0⟩, ⟨.u8, 1104, d1⟩]) []) p0 size1)
  | _, _, _ => none
theorem Q46.en_ok (N : Nat) (hE : EnvOk (E46 N) ents) (ρ : Type) (args : List AV) (sh : Heap) (K : AV → Heap → Option ρ) (r : ρ) (h : Q46.en N ρ args sh K = some r) : ∃ v sh', K v sh' = some r ∧ FnOk (E46 N).P 39 args sh v sh' := by
  unfold Q46.en at h
  split at h
  · exact fn_ok hE (kp := Q46.kp) (N := N) Try.func39 (c := Q46.bd) (by kernel_rfl) ((Q46.eq N _ _ _).trans h)
  · cases h
def E47 (N : Nat) : Env := (E46 N).add 39 (Q46.en N)
theorem E47_ok (N : Nat) : EnvOk (E47 N) ents := Env.add_ok (E46_ok N) (Q46.en_ok N (E46_ok N))
def Q47.kp : Keeps := ⟨[], [], []⟩
def Q47.bd : Code := bodyOf Try.f14
def Q47.fin {ρ : Type} (N : Nat) (K : AV → Heap → Option ρ) : XE → St → Option ρ := finK (E47 N) Q47.kp.fins Try.f14 [] K
theorem Q47.eq {ρ : Type} (N : Nat) (K : AV → Heap → Option ρ) (p0 : Int) :
    xbody (E47 N) ents Q47.kp N Try.f14 Q47.bd [.int .i64 (p0)] [] K = (Q47 N (fun d0 d1 d2 => K (.tup [.agg [⟨.i64, 2, d0⟩, ⟨.u8, 1104, d1⟩], .int .i64 (d2)]) []) p0) := by kernel_rfl
def Q47.en (N : Nat) (ρ : Type) : List AV → Heap → (AV → Heap → Option ρ) → Option ρ
  | [.int .i64 (p0)], [], K => (Q47 N (fun d0 d1 d2 => K (.tup [.agg [⟨.i64, 2, d0⟩, ⟨.u8, 1104, d1⟩], .int .i64 (d2)]) []) p0)
  | _, _, _ => none
theorem Q47.en_ok (N : Nat) (hE : EnvOk (E47 N) ents) (ρ : Type) (args : List AV) (sh : Heap) (K : AV → Heap → Option ρ) (r : ρ) (h : Q47.en N ρ args sh K = some r) : ∃ v sh', K v sh' = some r ∧ FnOk (E47 N).P 14 args sh v sh' := by
  unfold Q47.en at h
  split at h
  · exact fn_ok hE (kp := Q47.kp) (N := N) Try.func14 (c := Q47.bd) (by kernel_rfl) ((Q47.eq N _ _).trans h)
  · cases h
def E48 (N : Nat) : Env := (E47 N).add 14 (Q47.en N)
theorem E48_ok (N : Nat) : EnvOk (E48 N) ents := Env.add_ok (E47_ok N) (Q47.en_ok N (E47_ok N))
def Q48.kp : Keeps := ⟨[], [], []⟩
def Q48.bd : Code := bodyOf Try.f15
def Q48.fin {ρ : Type} (N : Nat) (K : AV → Heap → Option ρ) : XE → St → Option ρ := finK (E48 N) Q48.kp.fins Try.f15 [] K
theorem Q48.eq {ρ : Type} (N : Nat) (K : AV → Heap → Option ρ) (p0 : Int) :
    xbody (E48 N) ents Q48.kp N Try.f15 Q48.bd [.int .i64 (p0)] [] K = (Q48 N (fun d0 d1 d2 => K (.tup [.agg [⟨.i64, 2, d0⟩, ⟨.u8, 1104, d1⟩], .int .i64 (d2)]) []) p0) := by kernel_rfl
def Q48.en (N : Nat) (ρ : Type) : List AV → Heap → (AV → Heap → Option ρ) → Option ρ
  | [.int .i64 (p0)], [], K => (Q48 N (fun d0 d1 d2 => K (.tup [.agg [⟨.i64, 2, d0⟩, ⟨.u8, 1104, d1⟩], .int .i64 (d2)]) []) p0)
  | _, _, _ => none
theorem Q48.en_ok (N : Nat) (hE : EnvOk (E48 N) ents) (ρ : Type) (args : List AV) (sh : Heap) (K : AV → Heap → Option ρ) (r : ρ) (h : Q48.en N ρ args sh K = some r) : ∃ v sh', K v sh' = some r ∧ FnOk (E48 N).P 15 args sh v sh' := by
  unfold Q48.en at h
  split at h
  · exact fn_ok hE (kp := Q48.kp) (N := N) Try.func15 (c := Q48.bd) (by kernel_rfl) ((Q48.eq N _ _).trans h)
  · cases h
def E49 (N : Nat) : Env := (E48 N).add 15 (Q48.en N)
theorem E49_ok (N : Nat) : EnvOk (E49 N) ents := Env.add_ok (E48_ok N) (Q48.en_ok N (E48_ok N))
def Q49.kp : Keeps := ⟨[], [], []⟩
def Q49.bd : Code := bodyOf Try.f64
def Q49.fin {ρ : Type} (N : Nat) (K : AV → Heap → Option ρ) : XE → St → Option ρ := finK (E49 N) Q49.kp.fins Try.f64 [] K
theorem Q49.eq {ρ : Type} (N : Nat) (K : AV → Heap → Option ρ) (s0 : ByteArray) (prefix1 : ByteArray) :
    xbody (E49 N) ents Q49.kp N Try.f64 Q49.bd [.str (s0), .str (prefix1)] [] K = (Q49 N (fun d0 => K (.bool (d0)) []) s0 prefix1) := by kernel_rfl
def Q49.en (N : Nat) (ρ : Type) : List AV → Heap → (AV → Heap → Option ρ) → Option ρ
  | [.str (s0), .str (prefix1)], [], K => (Q49 N (fun d0 => K (.bool (d0)) []) s0 prefix1)
  | _, _, _ => none
theorem Q49.en_ok (N : Nat) (hE : EnvOk (E49 N) ents) (ρ : Type) (args : List AV) (sh : Heap) (K : AV → Heap → Option ρ) (r : ρ) (h : Q49.en N ρ args sh K = some r) : ∃ v sh', K v sh' = some r ∧ FnOk (E49 N).P 64 args sh v sh' := by
  unfold Q49.en at h
  split at h
  · exact fn_ok hE (kp := Q49.kp) (N := N) Try.func64 (c := Q49.bd) (by kernel_rfl) ((Q49.eq N _ _ _).trans h)
  · cases h
def E50 (N : Nat) : Env := (E49 N).add 64 (Q49.en N)
theorem E50_ok (N : Nat) : EnvOk (E50 N) ents := Env.add_ok (E49_ok N) (Q49.en_ok N (E49_ok N))
def Q50.kp : Keeps := ⟨[], [], []⟩
def Q50.bd : Code := bodyOf Try.f40
def Q50.fin {ρ : Type} (N : Nat) (K : AV → Heap → Option ρ) : XE → St → Option ρ := finK (E50 N) Q50.kp.fins Try.f40 [] K
theorem Q50.eq {ρ : Type} (N : Nat) (K : AV → Heap → Option ρ) (s0 : ByteArray) (prefix1 : ByteArray) :
    xbody (E50 N) ents Q50.kp N Try.f40 Q50.bd [.str (s0), .str (prefix1)] [] K = (Q50 N (fun d0 d1 => K (.tup [.str (d0), .bool (d1)]) []) s0 prefix1) := by kernel_rfl
def Q50.en (N : Nat) (ρ : Type) : List AV → Heap → (AV → Heap → Option ρ) → Option ρ
  | [.str (s0), .str (prefix1)], [], K => (Q50 N (fun d0 d1 => K (.tup [.str (d0), .bool (d1)]) []) s0 prefix1)
  | _, _, _ => none
theorem Q50.en_ok (N : Nat) (hE : EnvOk (E50 N) ents) (ρ : Type) (args : List AV) (sh : Heap) (K : AV → Heap → Option ρ) (r : ρ) (h : Q50.en N ρ args sh K = some r) : ∃ v sh', K v sh' = some r ∧ FnOk (E50 N).P 40 args sh v sh' := by
  unfold Q50.en at h
  split at h
  · exact fn_ok hE (kp := Q50.kp) (N := N) Try.func40 (c := Q50.bd) (by kernel_rfl) ((Q50.eq N _ _ _).trans h)
  · cases h
def E51 (N : Nat) : Env := (E50 N).add 40 (Q50.en N)
theorem E51_ok (N : Nat) : EnvOk (E51 N) ents := Env.add_ok (E50_ok N) (Q50.en_ok N (E50_ok N))
def Q51.kp : Keeps := ⟨[], [], []⟩
def Q51.bd : Code := bodyOf Try.f16
def Q51.fin {ρ : Type} (N : Nat) (K : AV → Heap → Option ρ) : XE → St → Option ρ := finK (E51 N) Q51.kp.fins Try.f16 [] K
theorem Q51.eq {ρ : Type} (N : Nat) (K : AV → Heap → Option ρ) (s0 : ByteArray) (prefix1 : ByteArray) :
    xbody (E51 N) ents Q51.kp N Try.f16 Q51.bd [.str (s0), .str (prefix1)] [] K = (Q51 N (fun d0 d1 => K (.tup [.str (d0), .bool (d1)]) []) s0 prefix1) := by kernel_rfl
def Q51.en (N : Nat) (ρ : Type) : List AV → Heap → (AV → Heap → Option ρ) → Option ρ
  | [.str (s0), .str (prefix1)], [], K => (Q51 N (fun d0 d1 => K (.tup [.str (d0), .bool (d1)]) []) s0 prefix1)
  | _, _, _ => none
theorem Q51.en_ok (N : Nat) (hE : EnvOk (E51 N) ents) (ρ : Type) (args : List AV) (sh : Heap) (K : AV → Heap → Option ρ) (r : ρ) (h : Q51.en N ρ args sh K = some r) : ∃ v sh', K v sh' = some r ∧ FnOk (E51 N).P 16 args sh v sh' := by
  unfold Q51.en at h
  split at h
  · exact fn_ok hE (kp := Q51.kp) (N := N) Try.func16 (c := Q51.bd) (by kernel_rfl) ((Q51.eq N _ _ _).trans h)
  · cases h
def E52 (N : Nat) : Env := (E51 N).add 16 (Q51.en N)
theorem E52_ok (N : Nat) : EnvOk (E52 N) ents := Env.add_ok (E51_ok N) (Q51.en_ok N (E51_ok N))
def Q52.kp : Keeps := ⟨[], [], []⟩
def Q52.bd : Code := bodyOf Try.f66
def Q52.fin {ρ : Type} (N : Nat) (K : AV → Heap → Option ρ) (gv2 : Nat → Int) : XE → St → Option ρ := finK (E52 N) Q52.kp.fins Try.f66 [⟨false, .flat 1 (.ints .i64 gv2)⟩] K
theorem Q52.eq {ρ : Type} (N : Nat) (K : AV → Heap → Option ρ) (i0 : Int) (j1 : Int) (gv2 : Nat → Int) :
    xbody (E52 N) ents Q52.kp N Try.f66 Q52.bd [.int .i64 (i0), .int .i64 (j1), .sptr [(0, 1)]] [⟨false, .flat 1 (.ints .i64 gv2)⟩] K = (Q52 N (fun d0 => K (.int .i64 (d0)) [⟨false, .flat 1 (.ints .i64 gv2)⟩]) i0 j1 gv2) := by kernel_rfl
def Q52.en (N : Nat) (ρ : Type) : List AV → Heap → (AV → Heap → Option ρ) → Option ρ
  | [.int .i64 (i0), .int .i64 (j1), .sptr [(0, 1)]], [⟨false, .flat 1 (.ints .i64 gv2)⟩], K => (Q52 N (fun d0 => K (.int .i64 (d0)) [⟨false, .flat 1 (.ints .i64 gv2)⟩]) i0 j1 gv2)
  | _, _, _ => none
theorem Q52.en_ok (N : Nat) (hE : EnvOk (E52 N) ents) (ρ : Type) (args : List AV) (sh : Heap) (K : AV → Heap → Option ρ) (r : ρ) (h : Q52.en N ρ args sh K = some r) : ∃ v sh', K v sh' = some r ∧ FnOk (E52 N).P 66 args sh v sh' := by
  unfold Q52.en at h
  split at h
  · exact fn_ok hE (kp := Q52.kp) (N := N) Try.func66 (c := Q52.bd) (by kernel_rfl) ((Q52.eq N _ _ _ _).trans h)
  · cases h
def E53 (N : Nat) : Env := (E52 N).add 66 (Q52.en N)
theorem E53_ok (N : Nat) : EnvOk (E53 N) ents := Env.add_ok (E52_ok N) (Q52.en_ok N (E52_ok N))
def Q55.kp : Keeps := ⟨[], [], []⟩
def Q55.bd : Code := bodyOf Try.f67
def Q55.fin {ρ : Type} (N : Nat) (K : AV → Heap → Option ρ) (gv2 : Nat → Int) (gv3 : Nat) (gv4 : Nat) (gv5 : Nat) (gv6 : Nat) (gv7 : Nat → Nat) (gv8 : Nat → Nat) (gv9 : Nat) (gv10 : Nat) (gv11 : Nat → Nat) (gv12 : Nat → Nat) (gv13 : Nat → Int) (gv14 : Nat → Int) : XE → St → Option ρ := finK (E53 N) Q55.kp.fins Try.f67 [⟨false, .flat 1 (.ints .i64 gv2)⟩, ⟨false, .avs [.slice true 3 0 gv3 .unk 1]⟩, ⟨false, .avs [.slice true 4 0 gv4 .unk 1]⟩, ⟨false, .hdr 5 gv5 gv6 gv7 gv8 none⟩, ⟨false, .hdr 6 gv9 gv10 gv11 gv12 none⟩, ⟨false, .flat 0 (.ints .i64 gv13)⟩, ⟨false, .flat 0 (.ints .i64 gv14)⟩] K
theorem Q55.eq {ρ : Type} (N : Nat) (K : AV → Heap → Option ρ) (x0 : Int) (y1 : Int) (gv2 : Nat → Int) (gv3 : Nat) (gv4 : Nat) (gv5 : Nat) (gv6 : Nat) (gv7 : Nat → Nat) (gv8 : Nat → Nat) (gv9 : Nat) (gv10 : Nat) (gv11 : Nat → Nat) (gv12 : Nat → Nat) (gv13 : Nat → Int) (gv14 : Nat → Int) :
    xbody (E53 N) ents Q55.kp N Try.f67 Q55.bd [.int .i64 (x0), .int .i64 (y1), .sptr [(0, 1)], .sptr [(1, 1)], .sptr [(2, 1)]] [⟨false, .flat 1 (.ints .i64 gv2)⟩, ⟨false, .avs [.slice true 3 0 gv3 .unk 1]⟩, ⟨false, .avs [.slice true 4 0 gv4 .unk 1]⟩, ⟨false, .hdr 5 gv5 gv6 gv7 gv8 none⟩, ⟨false, .hdr 6 gv9 gv10 gv11 gv12 none⟩, ⟨false, .flat 0 (.ints .i64 gv13)⟩, ⟨false, .flat 0 (.ints .i64 gv14)⟩] K = (Q55 N (fun d0 => K (.int .i64 (d0)) [⟨false, .flat 1 (.ints .i64 gv2)⟩, ⟨false, .avs [.slice true 3 0 gv3 .unk 1]⟩, ⟨false, .avs [.slice true 4 0 gv4 .unk 1]⟩, ⟨false, .hdr 5 gv5 gv6 gv7 gv8 none⟩, ⟨false, .hdr 6 gv9 gv10 gv11 gv12 none⟩, ⟨false, .flat 0 (.ints .i64 gv13)⟩, ⟨false, .flat 0 (.ints .i64 gv14)⟩]) x0 y1 gv2 gv3 gv4 gv5 gv6 gv7 gv8 gv9 gv10 gv11 gv12 gv13 gv14) := by kernel_rfl
def Q55.en (N : Nat) (ρ : Type) : List AV → Heap → (AV → Heap → Option ρ) → Option ρ
  | [.int .i64 (x0), .int .i64 (y1), .sptr [(0, 1)], .sptr [(1, 1)], .sptr [(2, 1)]], [⟨false, .flat 1 (.ints .i64 gv2)⟩, ⟨false, .avs [.slice true 3 0 gv3 .unk 1]⟩, ⟨false, .avs [.slice true 4 0 gv4 .unk 1]⟩, ⟨false, .hdr 5 gv5 gv6 gv7 gv8 none⟩, ⟨false, .hdr 6 gv9 gv10 gv11 gv12 none⟩, ⟨false, .flat 0 (.ints .i64 gv13)⟩, ⟨false, .flat 0 (.ints .i64 gv14)⟩], K => (Q55 N (fun d0 => K (.int .i64 (d0)) [⟨false, .flat 1 (.ints .i64 gv2)⟩, ⟨false, .avs [.slice true 3 0 gv3 .unk 1]⟩, ⟨false, .avs [.slice true 4 0 gv4 .unk 1]⟩, ⟨false, .hdr 5 gv5 gv6 gv7 gv8 none⟩, ⟨false, .hdr 6 gv9 gv10 gv11 gv12 none⟩, ⟨false, .flat 0 (.ints .i64 gv13)⟩, ⟨false, .flat 0 (.ints .i64 gv14)⟩]) x0 y1 gv2 gv3 gv4 gv5 gv6 gv7 gv8 gv9 gv10 gv11 gv12 gv13 gv14)
  | _, _, _ => none
theorem Q55.en_ok (N : Nat) (hE : EnvOk (E53 N) ents) (ρ : Type) (args : List AV) (sh : Heap) (K : AV → Heap → Option ρ) (r : ρ) (h : Q55.en N ρ args sh K = some r) : ∃ v sh', K v sh' = some r ∧ FnOk (E53 N).P 67 args sh v sh' := by
  unfold Q55.en at h
  split at h
  · exact fn_ok hE (kp := Q55.kp) (N := N) Try.func67 (c := Q55.bd) (by kernel_rfl) ((Q55.eq N _ _ _ _ _ _ _ _ _ _ _ _ _ _ _ _).trans h)
  · cases h
def E54 (N : Nat) : Env := (E53 N).add 67 (Q55.en N)
theorem E54_ok (N : Nat) : EnvOk (E54 N) ents := Env.add_ok (E53_ok N) (Q55.en_ok N (E53_ok N))
def Q58.kp : Keeps := ⟨[], [], []⟩
def Q58.bd : Code := bodyOf Try.f68
def Q58.fin {ρ : Type} (N : Nat) (K : AV → Heap → Option ρ) (gv2 : Nat → Int) : XE → St → Option ρ := finK (E54 N) Q58.kp.fins Try.f68 [⟨false, .flat 1 (.ints .i64 gv2)⟩] K
theorem Q58.eq {ρ : Type} (N : Nat) (K : AV → Heap → Option ρ) (i0 : Int) (j1 : Int) (gv2 : Nat → Int) :
    xbody (E54 N) ents Q58.kp N Try.f68 Q58.bd [.int .i64 (i0), .int .i64 (j1), .sptr [(0, 1)]] [⟨false, .flat 1 (.ints .i64 gv2)⟩] K = (Q58 N (fun d0 => K (.int .i64 (d0)) [⟨false, .flat 1 (.ints .i64 gv2)⟩]) i0 j1 gv2) := by kernel_rfl
def Q58.en (N : Nat) (ρ : Type) : List AV → Heap → (AV → Heap → Option ρ) → Option ρ
  | [.int .i64 (i0), .int .i64 (j1), .sptr [(0, 1)]], [⟨false, .flat 1 (.ints .i64 gv2)⟩], K => (Q58 N (fun d0 => K (.int .i64 (d0)) [⟨false, .flat 1 (.ints .i64 gv2)⟩]) i0 j1 gv2)
  | _, _, _ => none
theorem Q58.en_ok (N : Nat) (hE : EnvOk (E54 N) ents) (ρ : Type) (args : List AV) (sh : Heap) (K : AV → Heap → Option ρ) (r : ρ) (h : Q58.en N ρ args sh K = some r) : ∃ v sh', K v sh' = some r ∧ FnOk (E54 N).P 68 args sh v sh' := by
  unfold Q58.en at h
  split at h
  · exact fn_ok hE (kp := Q58.kp) (N := N) Try.func68 (c := Q58.bd) (by kernel_rfl) ((Q58.eq N _ _ _ _).trans h)
  · cases h
def E55 (N : Nat) : Env := (E54 N).add 68 (Q58.en N)
theorem E55_ok (N : Nat) : EnvOk (E55 N) ents := Env.add_ok (E54_ok N) (Q58.en_ok N (E54_ok N))
def Q61.kp : Keeps := ⟨[], [], []⟩
def Q61.bd : Code := bodyOf Try.f70
def Q61.fin {ρ : Type} (N : Nat) (K : AV → Heap → Option ρ) : XE → St → Option ρ := finK (E55 N) Q61.kp.fins Try.f70 [] K
theorem Q61.eq {ρ : Type} (N : Nat) (K : AV → Heap → Option ρ) (av0 : Int) (bv1 : Int) :
    xbody (E55 N) ents Q61.kp N Try.f70 Q61.bd [.int .i64 (av0), .int .i64 (bv1)] [] K = (Q61 N (fun d0 => K (.int .i64 (d0)) []) av0 bv1) := by kernel_rfl
def Q61.en (N : Nat) (ρ : Type) : List AV → Heap → (AV → Heap → Option ρ) → Option ρ
  | [.int .i64 (av0), .int .i64 (bv1)], [], K => (Q61 N (fun d0 => K (.int .i64 (d0)) []) av0 bv1)
  | _, _, _ => none
theorem Q61.en_ok (N : Nat) (hE : EnvOk (E55 N) ents) (ρ : Type) (args : List AV) (sh : Heap) (K : AV → Heap → Option ρ) (r : ρ) (h : Q61.en N ρ args sh K = some r) : ∃ v sh', K v sh' = some r ∧ FnOk (E55 N).P 70 args sh v sh' := by
  unfold Q61.en at h
  split at h
  · exact fn_ok hE (kp := Q61.kp) (N := N) Try.func70 (c := Q61.bd) (by kernel_rfl) ((Q61.eq N _ _ _).trans h)
  · cases h
def E56 (N : Nat) : Env := (E55 N).add 70 (Q61.en N)
theorem E56_ok (N : Nat) : EnvOk (E56 N) ents := Env.add_ok (E55_ok N) (Q61.en_ok N (E55_ok N))
def Q62.kp : Keeps := ⟨[], [], []⟩
def Q62.bd : Code := bodyOf Try.f69
def Q62.fin {ρ : Type} (N : Nat) (K : AV → Heap → Option ρ) : XE → St → Option ρ := finK (E56 N) Q62.kp.fins Try.f69 [] K
theorem Q62.eq {ρ : Type} (N : Nat) (K : AV → Heap → Option ρ) (i0 : Int) (j1 : Int) :
    xbody (E56 N) ents Q62.kp N Try.f69 Q62.bd [.int .i64 (i0), .int .i64 (j1)] [] K = (Q62 N (fun d0 => K (.int .i64 (d0)) []) i0 j1) := by kernel_rfl
def Q62.en (N : Nat) (ρ : Type) : List AV → Heap → (AV → Heap → Option ρ) → Option ρ
  | [.int .i64 (i0), .int .i64 (j1)], [], K => (Q62 N (fun d0 => K (.int .i64 (d0)) []) i0 j1)
  | _, _, _ => none
theorem Q62.en_ok (N : Nat) (hE : EnvOk (E56 N) ents) (ρ : Type) (args : List AV) (sh : Heap) (K : AV → Heap → Option ρ) (r : ρ) (h : Q62.en N ρ args sh K = some r) : ∃ v sh', K v sh' = some r ∧ FnOk (E56 N).P 69 args sh v sh' := by
  unfold Q62.en at h
  split at h
  · exact fn_ok hE (kp := Q62.kp) (N := N) Try.func69 (c := Q62.bd) (by kernel_rfl) ((Q62.eq N _ _ _).trans h)
  · cases h
def E57 (N : Nat) : Env := (E56 N).add 69 (Q62.en N)
theorem E57_ok (N : Nat) : EnvOk (E57 N) ents := Env.add_ok (E56_ok N) (Q62.en_ok N (E56_ok N))
def Q53.kp : Keeps := ⟨[(0, [0, 1, 5, 10, 11], [], []), (2, [0, 1, 5, 6, 7, 10, 11, 15, 16], [], [])], [(0, [5], [], []), (2, [0, 1, 5, 7, 10, 11], [], [])], []⟩
def Q53.bd : Code := bodyOf Try.f65
def Q53.fin {ρ : Type} (N : Nat) (K : AV → Heap → Option ρ) (gv1 : Nat → Int) : XE → St → Option ρ := finK (E57 N) Q53.kp.fins Try.f65 [⟨false, .flat 1 (.ints .i64 gv1)⟩] K
def Q53.k0 {ρ : Type} (N : Nat) (K : AV → Heap → Option ρ) (gv1 : Nat → Int) : XE → St → Option ρ := (blockK Q53.kp 1 0 (seqK (xcode (E57 N) ents Q53.kp 1 N (cB (cB (cB Q53.bd))) 0) (Q53.fin N K gv1)))
theorem Q53.k0_mix {ρ : Type} (N : Nat) (K : AV → Heap → Option ρ) (gv1 : Nat → Int) : mixK (Q53.fin N K gv1 .ret) (Q53.k0 N K gv1) = (Q53.k0 N K gv1) := by
  funext e s; cases e <;> kernel_rfl
def Q53.st0 (nv0 : Int) (gv1 : Nat → Int) (outv2 : Nat) (x3 : Int) (gv4 : Nat) (gv5 : Nat → Nat) (gv6 : Nat → Nat) (gv7 : Nat → Int) : St := ⟨sl 33 [(0, .int .i64 (nv0)), (1, .fn 66 0 [[(0, 1)]]), (5, .slice true 1 0 outv2 .whole 1), (10, .int .i64 (nv0)), (11, .int .i64 (x3))], [⟨false, .flat 1 (.ints .i64 gv1)⟩, ⟨true, .hdr 2 0 gv4 gv5 gv6 none⟩, ⟨true, .flat 0 (.ints .i64 gv7)⟩]⟩
def Q53.sx0_0 (gv1 : Nat → Int) (ov14 : Nat) (ov15 : Nat) (ov16 : Nat → Nat) (ov17 : Nat → Nat) (ov18 : Nat → Int) : St := ⟨sl 33 [(5, .slice true 1 0 ov14 .whole 1)], [⟨false, .flat 1 (.ints .i64 gv1)⟩, ⟨true, .hdr 2 0 ov15 ov16 ov17 none⟩, ⟨true, .flat 0 (.ints .i64 ov18)⟩]⟩
def Q53.k1g {ρ : Type} (N : Nat) (L0 : St → Option ρ) (kv : XE → St → Option ρ) : XE → St → Option ρ := (blockK Q53.kp 1 2 (seqK (xcode (E57 N) ents Q53.kp 1 N (cB (cB (cB (cK (cA (cB (cB (cL (cK (cB (cA (cB (cB Q53.bd))))))))))))) 1) (blockK Q53.kp 1 1 (seqK (xcode (E57 N) ents Q53.kp 1 N (cB (cB (cB (cL (cK (cB (cA (cB (cB Q53.bd))))))))) 0) (roundK Q53.kp 1 0 L0 kv)))))
theorem Q53.k1_mix {ρ : Type} (N : Nat) (K : AV → Heap → Option ρ) (L0 : St → Option ρ) (gv1 : Nat → Int) : mixK (Q53.fin N K gv1 .ret) (Q53.k1g N L0 (Q53.k0 N K gv1)) = (Q53.k1g N L0 (Q53.k0 N K gv1)) := by
  funext e s; cases e <;> kernel_rfl
def Q53.st1 (nv0 : Int) (gv1 : Nat → Int) (outv2 : Nat) (x3 : Int) (gv4 : Nat) (gv5 : Nat → Nat) (gv6 : Nat → Nat) (gv7 : Nat → Int) (row8 : Nat) (x9 : Int) (gv10 : Nat → Int) : St := ⟨sl 33 [(0, .int .i64 (nv0)), (1, .fn 66 0 [[(0, 1)]]), (5, .slice true 1 0 outv2 .whole 1), (6, .int .i64 (x3)), (7, .slice true 2 0 row8 .whole 1), (10, .int .i64 (nv0)), (11, .int .i64 (x3)), (15, .int .i64 (nv0)), (16, .int .i64 (x9))], [⟨false, .flat 1 (.ints .i64 gv1)⟩, ⟨true, .hdr 3 0 gv4 gv5 gv6 none⟩, ⟨true, .flat 0 (.ints .i64 gv10)⟩, ⟨true, .flat 0 (.ints .i64 gv7)⟩]⟩
def Q53.sx1_0 (nv0 : Int) (gv1 : Nat → Int) (outv2 : Nat) (x3 : Int) (gv4 : Nat) (gv5 : Nat → Nat) (gv6 : Nat → Nat) (gv7 : Nat → Int) (ov12 : Nat) (ov13 : Nat → Int) : St := ⟨sl 33 [(0, .int .i64 (nv0)), (1, .fn 66 0 [[(0, 1)]]), (5, .slice true 1 0 outv2 .whole 1), (7, .slice true 2 0 ov12 .whole 1), (10, .int .i64 (nv0)), (11, .int .i64 (x3))], [⟨false, .flat 1 (.ints .i64 gv1)⟩, ⟨true, .hdr 3 0 gv4 gv5 gv6 none⟩, ⟨true, .flat 0 (.ints .i64 ov13)⟩, ⟨true, .flat 0 (.ints .i64 gv7)⟩]⟩
theorem Q53.b1_gen {ρ : Type} (N : Nat) (K : AV → Heap → Option ρ) (L1 : St → Option ρ) (kv : XE → St → Option ρ) (nv0 : Int) (gv1 : Nat → Int) (outv2 : Nat) (x3 : Int) (gv4 : Nat) (gv5 : Nat → Nat) (gv6 : Nat → Nat) (gv7 : Nat → Int) (row8 : Nat) (x9 : Int) (gv10 : Nat → Int) :
    xcode (E57 N) ents Q53.kp 1 N (cL (cK (cB (cA (cB (cB (cK (cA (cB (cB (cL (cK (cB (cA (cB (cB Q53.bd)))))))))))))))) 2 (Q53.st1 nv0 gv1 outv2 x3 gv4 gv5 gv6 gv7 row8 x9 gv10) (roundK Q53.kp 1 2 L1 (mixK (Q53.fin N K gv1 .ret) kv)) = (Q53.b1 N (fun d0 d1 d2 d3 d4 => K (.slice true 1 0 d0 .whole 1) [⟨false, .flat 1 (.ints .i64 gv1)⟩, ⟨true, .hdr 2 0 d1 d2 d3 none⟩, ⟨true, .flat 0 (.ints .i64 d4)⟩]) (fun row8 x9 gv10 => L1 (Q53.st1 nv0 gv1 outv2 x3 gv4 gv5 gv6 gv7 row8 x9 gv10)) (fun ov12 ov13 => kv (.exit 2) (Q53.sx1_0 nv0 gv1 outv2 x3 gv4 gv5 gv6 gv7 ov12 ov13)) nv0 gv1 x3 row8 x9 gv10) := by kernel_rfl
theorem Q53.b1_eq {ρ : Type} (N : Nat) (K : AV → Heap → Option ρ) (L0 : St → Option ρ) (L1 : St → Option ρ) (nv0 : Int) (gv1 : Nat → Int) (outv2 : Nat) (x3 : Int) (gv4 : Nat) (gv5 : Nat → Nat) (gv6 : Nat → Nat) (gv7 : Nat → Int) (row8 : Nat) (x9 : Int) (gv10 : Nat → Int) :
    xcode (E57 N) ents Q53.kp 1 N (cL (cK (cB (cA (cB (cB (cK (cA (cB (cB (cL (cK (cB (cA (cB (cB Q53.bd)))))))))))))))) 2 (Q53.st1 nv0 gv1 outv2 x3 gv4 gv5 gv6 gv7 row8 x9 gv10) (roundK Q53.kp 1 2 L1 (Q53.k1g N L0 (Q53.k0 N K gv1))) = (Q53.b1 N (fun d0 d1 d2 d3 d4 => K (.slice true 1 0 d0 .whole 1) [⟨false, .flat 1 (.ints .i64 gv1)⟩, ⟨true, .hdr 2 0 d1 d2 d3 none⟩, ⟨true, .flat 0 (.ints .i64 d4)⟩]) (fun row8 x9 gv10 => L1 (Q53.st1 nv0 gv1 outv2 x3 gv4 gv5 gv6 gv7 row8 x9 gv10)) (fun ov12 ov13 => (Q53.k1g N L0 (Q53.k0 N K gv1)) (.exit 2) (Q53.sx1_0 nv0 gv1 outv2 x3 gv4 gv5 gv6 gv7 ov12 ov13)) nv0 gv1 x3 row8 x9 gv10) := by
  have h := Q53.b1_gen N K L1 (Q53.k1g N L0 (Q53.k0 N K gv1)) nv0 gv1 outv2 x3 gv4 gv5 gv6 gv7 row8 x9 gv10
  rw [Q53.k1_mix] at h
  exact h
theorem Q53.a1_0_gen {ρ : Type} (N : Nat) (K : AV → Heap → Option ρ) (L0 : St → Option ρ) (kv : XE → St → Option ρ) (nv0 : Int) (gv1 : Nat → Int) (outv2 : Nat) (x3 : Int) (gv4 : Nat) (gv5 : Nat → Nat) (gv6 : Nat → Nat) (gv7 : Nat → Int) (ov12 : Nat) (ov13 : Nat → Int) :
    (Q53.k1g N L0 (mixK (Q53.fin N K gv1 .ret) kv)) (.exit 2) (Q53.sx1_0 nv0 gv1 outv2 x3 gv4 gv5 gv6 gv7 ov12 ov13) = (Q53.a1_0 N (fun d0 d1 d2 d3 d4 => K (.slice true 1 0 d0 .whole 1) [⟨false, .flat 1 (.ints .i64 gv1)⟩, ⟨true, .hdr 2 0 d1 d2 d3 none⟩, ⟨true, .flat 0 (.ints .i64 d4)⟩]) (fun outv2 x3 gv4 gv5 gv6 gv7 => L0 (Q53.st0 nv0 gv1 outv2 x3 gv4 gv5 gv6 gv7)) (fun ov14 ov15 ov16 ov17 ov18 => kv (.exit 0) (Q53.sx0_0 gv1 ov14 ov15 ov16 ov17 ov18)) outv2 x3 gv4 gv5 gv6 gv7 ov12 ov13) := by kernel_rfl
theorem Q53.a1_0_eq {ρ : Type} (N : Nat) (K : AV → Heap → Option ρ) (L0 : St → Option ρ) (nv0 : Int) (gv1 : Nat → Int) (outv2 : Nat) (x3 : Int) (gv4 : Nat) (gv5 : Nat → Nat) (gv6 : Nat → Nat) (gv7 : Nat → Int) (ov12 : Nat) (ov13 : Nat → Int) :
    (Q53.k1g N L0 (Q53.k0 N K gv1)) (.exit 2) (Q53.sx1_0 nv0 gv1 outv2 x3 gv4 gv5 gv6 gv7 ov12 ov13) = (Q53.a1_0 N (fun d0 d1 d2 d3 d4 => K (.slice true 1 0 d0 .whole 1) [⟨false, .flat 1 (.ints .i64 gv1)⟩, ⟨true, .hdr 2 0 d1 d2 d3 none⟩, ⟨true, .flat 0 (.ints .i64 d4)⟩]) (fun outv2 x3 gv4 gv5 gv6 gv7 => L0 (Q53.st0 nv0 gv1 outv2 x3 gv4 gv5 gv6 gv7)) (fun ov14 ov15 ov16 ov17 ov18 => (Q53.k0 N K gv1) (.exit 0) (Q53.sx0_0 gv1 ov14 ov15 ov16 ov17 ov18)) outv2 x3 gv4 gv5 gv6 gv7 ov12 ov13) := by
  have h := Q53.a1_0_gen N K L0 (Q53.k0 N K gv1) nv0 gv1 outv2 x3 gv4 gv5 gv6 gv7 ov12 ov13
  rw [Q53.k0_mix] at h
  exact h
theorem Q53.b0_gen {ρ : Type} (N : Nat) (K : AV → Heap → Option ρ) (L0 : St → Option ρ) (kv : XE → St → Option ρ) (nv0 : Int) (gv1 : Nat → Int) (outv2 : Nat) (x3 : Int) (gv4 : Nat) (gv5 : Nat → Nat) (gv6 : Nat → Nat) (gv7 : Nat → Int) :
    xcode (E57 N) ents Q53.kp 1 N (cL (cK (cB (cA (cB (cB Q53.bd)))))) 0 (Q53.st0 nv0 gv1 outv2 x3 gv4 gv5 gv6 gv7) (roundK Q53.kp 1 0 L0 (mixK (Q53.fin N K gv1 .ret) kv)) = (Q53.b0 N (fun d0 d1 d2 d3 d4 => K (.slice true 1 0 d0 .whole 1) [⟨false, .flat 1 (.ints .i64 gv1)⟩, ⟨true, .hdr 2 0 d1 d2 d3 none⟩, ⟨true, .flat 0 (.ints .i64 d4)⟩]) (fun row8 x9 gv10 => xloop (xcode (E57 N) ents Q53.kp 1 N (cL (cK (cB (cA (cB (cB (cK (cA (cB (cB (cL (cK (cB (cA (cB (cB Q53.bd)))))))))))))))) 2) Q53.kp 1 2 N (Q53.st1 nv0 gv1 outv2 x3 gv4 gv5 gv6 gv7 row8 x9 gv10) (Q53.k1g N L0 (mixK (Q53.fin N K gv1 .ret) kv))) (fun outv2 x3 gv4 gv5 gv6 gv7 => L0 (Q53.st0 nv0 gv1 outv2 x3 gv4 gv5 gv6 gv7)) (fun ov14 ov15 ov16 ov17 ov18 => kv (.exit 0) (Q53.sx0_0 gv1 ov14 ov15 ov16 ov17 ov18)) nv0 outv2 x3 gv4 gv5 gv6 gv7) := by kernel_rfl
theorem Q53.b0_eq {ρ : Type} (N : Nat) (K : AV → Heap → Option ρ) (L0 : St → Option ρ) (nv0 : Int) (gv1 : Nat → Int) (outv2 : Nat) (x3 : Int) (gv4 : Nat) (gv5 : Nat → Nat) (gv6 : Nat → Nat) (gv7 : Nat → Int) :
    xcode (E57 N) ents Q53.kp 1 N (cL (cK (cB (cA (cB (cB Q53.bd)))))) 0 (Q53.st0 nv0 gv1 outv2 x3 gv4 gv5 gv6 gv7) (roundK Q53.kp 1 0 L0 (Q53.k0 N K gv1)) = (Q53.b0 N (fun d0 d1 d2 d3 d4 => K (.slice true 1 0 d0 .whole 1) [⟨false, .flat 1 (.ints .i64 gv1)⟩, ⟨true, .hdr 2 0 d1 d2 d3 none⟩, ⟨true, .flat 0 (.ints .i64 d4)⟩]) (fun row8 x9 gv10 => xloop (xcode (E57 N) ents Q53.kp 1 N (cL (cK (cB (cA (cB (cB (cK (cA (cB (cB (cL (cK (cB (cA (cB (cB Q53.bd)))))))))))))))) 2) Q53.kp 1 2 N (Q53.st1 nv0 gv1 outv2 x3 gv4 gv5 gv6 gv7 row8 x9 gv10) (Q53.k1g N L0 (Q53.k0 N K gv1))) (fun outv2 x3 gv4 gv5 gv6 gv7 => L0 (Q53.st0 nv0 gv1 outv2 x3 gv4 gv5 gv6 gv7)) (fun ov14 ov15 ov16 ov17 ov18 => (Q53.k0 N K gv1) (.exit 0) (Q53.sx0_0 gv1 ov14 ov15 ov16 ov17 ov18)) nv0 outv2 x3 gv4 gv5 gv6 gv7) := by
  have h := Q53.b0_gen N K L0 (Q53.k0 N K gv1) nv0 gv1 outv2 x3 gv4 gv5 gv6 gv7
  rw [Q53.k0_mix] at h
  exact h
theorem Q53.a0_0_eq {ρ : Type} (N : Nat) (K : AV → Heap → Option ρ) (gv1 : Nat → Int) (ov14 : Nat) (ov15 : Nat) (ov16 : Nat → Nat) (ov17 : Nat → Nat) (ov18 : Nat → Int) :
    (Q53.k0 N K gv1) (.exit 0) (Q53.sx0_0 gv1 ov14 ov15 ov16 ov17 ov18) = (Q53.a0_0 N (fun d0 d1 d2 d3 d4 => K (.slice true 1 0 d0 .whole 1) [⟨false, .flat 1 (.ints .i64 gv1)⟩, ⟨true, .hdr 2 0 d1 d2 d3 none⟩, ⟨true, .flat 0 (.ints .i64 d4)⟩]) ov14 ov15 ov16 ov17 ov18) := by kernel_rfl
theorem Q53.l1_eq {ρ : Type} (N : Nat) (K : AV → Heap → Option ρ) (L0 : St → Option ρ) (nv0 : Int) (gv1 : Nat → Int) (outv2 : Nat) (x3 : Int) (gv4 : Nat) (gv5 : Nat → Nat) (gv6 : Nat → Nat) (gv7 : Nat → Int) :
    ∀ (m : Nat) (row8 : Nat) (x9 : Int) (gv10 : Nat → Int), xloop (xcode (E57 N) ents Q53.kp 1 N (cL (cK (cB (cA (cB (cB (cK (cA (cB (cB (cL (cK (cB (cA (cB (cB Q53.bd)))))))))))))))) 2) Q53.kp 1 2 m (Q53.st1 nv0 gv1 outv2 x3 gv4 gv5 gv6 gv7 row8 x9 gv10) (Q53.k1g N L0 (Q53.k0 N K gv1)) = (Q53.l1 N (fun d0 d1 d2 d3 d4 => K (.slice true 1 0 d0 .whole 1) [⟨false, .flat 1 (.ints .i64 gv1)⟩, ⟨true, .hdr 2 0 d1 d2 d3 none⟩, ⟨true, .flat 0 (.ints .i64 d4)⟩]) nv0 gv1 x3 (fun ov12 ov13 => (Q53.k1g N L0 (Q53.k0 N K gv1)) (.exit 2) (Q53.sx1_0 nv0 gv1 outv2 x3 gv4 gv5 gv6 gv7 ov12 ov13)) m row8 x9 gv10) := by
  intro m
  induction m with
  | zero => intros; rfl
  | succ m ih =>
    intro row8 x9 gv10
    refine (Q53.b1_eq N K L0 (fun s => xloop (xcode (E57 N) ents Q53.kp 1 N (cL (cK (cB (cA (cB (cB (cK (cA (cB (cB (cL (cK (cB (cA (cB (cB Q53.bd)))))))))))))))) 2) Q53.kp 1 2 m s (Q53.k1g N L0 (Q53.k0 N K gv1))) nv0 gv1 outv2 x3 gv4 gv5 gv6 gv7 row8 x9 gv10).trans ?_
    simp only [ih]
    kernel_rfl
theorem Q53.l0_eq {ρ : Type} (N : Nat) (K : AV → Heap → Option ρ) (nv0 : Int) (gv1 : Nat → Int) :
    ∀ (m : Nat) (outv2 : Nat) (x3 : Int) (gv4 : Nat) (gv5 : Nat → Nat) (gv6 : Nat → Nat) (gv7 : Nat → Int), xloop (xcode (E57 N) ents Q53.kp 1 N (cL (cK (cB (cA (cB (cB Q53.bd)))))) 0) Q53.kp 1 0 m (Q53.st0 nv0 gv1 outv2 x3 gv4 gv5 gv6 gv7) (Q53.k0 N K gv1) = (Q53.l0 N (fun d0 d1 d2 d3 d4 => K (.slice true 1 0 d0 .whole 1) [⟨false, .flat 1 (.ints .i64 gv1)⟩, ⟨true, .hdr 2 0 d1 d2 d3 none⟩, ⟨true, .flat 0 (.ints .i64 d4)⟩]) nv0 gv1 (fun ov14 ov15 ov16 ov17 ov18 => (Q53.k0 N K gv1) (.exit 0) (Q53.sx0_0 gv1 ov14 ov15 ov16 ov17 ov18)) m outv2 x3 gv4 gv5 gv6 gv7) := by
  intro m
  induction m with
  | zero => intros; rfl
  | succ m ih =>
    intro outv2 x3 gv4 gv5 gv6 gv7
    refine (Q53.b0_eq N K (fun s => xloop (xcode (E57 N) ents Q53.kp 1 N (cL (cK (cB (cA (cB (cB Q53.bd)))))) 0) Q53.kp 1 0 m s (Q53.k0 N K gv1)) nv0 gv1 outv2 x3 gv4 gv5 gv6 gv7).trans ?_
    simp only [ih, Q53.l1_eq, Q53.a1_0_eq]
    kernel_rfl
theorem Q53.s_eq {ρ : Type} (N : Nat) (K : AV → Heap → Option ρ) (nv0 : Int) (gv1 : Nat → Int) :
    xbody (E57 N) ents Q53.kp N Try.f65 Q53.bd [.int .i64 (nv0), .fn 66 0 [[(0, 1)]]] [⟨false, .flat 1 (.ints .i64 gv1)⟩] K = (Q53.s N (fun d0 d1 d2 d3 d4 => K (.slice true 1 0 d0 .whole 1) [⟨false, .flat 1 (.ints .i64 gv1)⟩, ⟨true, .hdr 2 0 d1 d2 d3 none⟩, ⟨true, .flat 0 (.ints .i64 d4)⟩]) (fun outv2 x3 gv4 gv5 gv6 gv7 => xloop (xcode (E57 N) ents Q53.kp 1 N (cL (cK (cB (cA (cB (cB Q53.bd)))))) 0) Q53.kp 1 0 N (Q53.st0 nv0 gv1 outv2 x3 gv4 gv5 gv6 gv7) (Q53.k0 N K gv1))) := by kernel_rfl
theorem Q53.eq {ρ : Type} (N : Nat) (K : AV → Heap → Option ρ) (nv0 : Int) (gv1 : Nat → Int) :
    xbody (E57 N) ents Q53.kp N Try.f65 Q53.bd [.int .i64 (nv0), .fn 66 0 [[(0, 1)]]] [⟨false, .flat 1 (.ints .i64 gv1)⟩] K = (Q53 N (fun d0 d1 d2 d3 d4 => K (.slice true 1 0 d0 .whole 1) [⟨false, .flat 1 (.ints .i64 gv1)⟩, ⟨true, .hdr 2 0 d1 d2 d3 none⟩, ⟨true, .flat 0 (.ints .i64 d4)⟩]) nv0 gv1) := by
  refine (Q53.s_eq N K nv0 gv1).trans ?_
  simp only [Q53.l0_eq, Q53.a0_0_eq]
  kernel_rfl
def Q56.kp : Keeps := ⟨[(0, [0, 1, 5, 10, 11], [], []), (2, [0, 1, 5, 6, 7, 10, 11, 15, 16], [], [])], [(0, [5], [], []), (2, [0, 1, 5, 7, 10, 11], [], [])], []⟩
def Q56.bd : Code := bodyOf Try.f65
def Q56.fin {ρ : Type} (N : Nat) (K : AV → Heap → Option ρ) (gv1 : Nat → Int) (gv2 : Nat) (gv3 : Nat) (gv4 : Nat) (gv5 : Nat) (gv6 : Nat → Nat) (gv7 : Nat → Nat) (gv8 : Nat) (gv9 : Nat) (gv10 : Nat → Nat) (gv11 : Nat → Nat) (gv12 : Nat → Int) (gv13 : Nat → Int) : XE → St → Option ρ := finK (E57 N) Q56.kp.fins Try.f65 [⟨false, .flat 1 (.ints .i64 gv1)⟩, ⟨false, .avs [.slice true 3 0 gv2 .unk 1]⟩, ⟨false, .avs [.slice true 4 0 gv3 .unk 1]⟩, ⟨false, .hdr 5 gv4 gv5 gv6 gv7 none⟩, ⟨false, .hdr 6 gv8 gv9 gv10 gv11 none⟩, ⟨false, .flat 0 (.ints .i64 gv12)⟩, ⟨false, .flat 0 (.ints .i64 gv13)⟩] K
def Q56.k0 {ρ : Type} (N : Nat) (K : AV → Heap → Option ρ) (gv1 : Nat → Int) (gv2 : Nat) (gv3 : Nat) (gv4 : Nat) (gv5 : Nat) (gv6 : Nat → Nat) (gv7 : Nat → Nat) (gv8 : Nat) (gv9 : Nat) (gv10 : Nat → Nat) (gv11 : Nat → Nat) (gv12 : Nat → Int) (gv13 : Nat → Int) : XE → St → Option ρ := (blockK Q56.kp 7 0 (seqK (xcode (E57 N) ents Q56.kp 7 N (cB (cB (cB Q56.bd))) 0) (Q56.fin N K gv1 gv2 gv3 gv4 gv5 gv6 gv7 gv8 gv9 gv10 gv11 gv12 gv13)))
theorem Q56.k0_mix {ρ : Type} (N : Nat) (K : AV → Heap → Option ρ) (gv1 : Nat → Int) (gv2 : Nat) (gv3 : Nat) (gv4 : Nat) (gv5 : Nat) (gv6 : Nat → Nat) (gv7 : Nat → Nat) (gv8 : Nat) (gv9 : Nat) (gv10 : Nat → Nat) (gv11 : Nat → Nat) (gv12 : Nat → Int) (gv13 : Nat → Int) : mixK (Q56.fin N K gv1 gv2 gv3 gv4 gv5 gv6 gv7 gv8 gv9 gv10 gv11 gv12 gv13 .ret) (Q56.k0 N K gv1 gv2 gv3 gv4 gv5 gv6 gv7 gv8 gv9 gv10 gv11 gv12 gv13) = (Q56.k0 N K gv1 gv2 gv3 gv4 gv5 gv6 gv7 gv8 gv9 gv10 gv11 gv12 gv13) := by
  funext e s; cases e <;> kernel_rfl
def Q56.st0 (nv0 : Int) (gv1 : Nat → Int) (gv2 : Nat) (gv3 : Nat) (gv4 : Nat) (gv5 : Nat) (gv6 : Nat → Nat) (gv7 : Nat → Nat) (gv8 : Nat) (gv9 : Nat) (gv10 : Nat → Nat) (gv11 : Nat → Nat) (gv12 : Nat → Int) (gv13 : Nat → Int) (outv14 : Nat) (x15 : Int) (gv16 : Nat) (gv17 : Nat → Nat) (gv18 : Nat → Nat) (gv19 : Nat → Int) : St := ⟨sl 33 [(0, .int .i64 (nv0)), (1, .fn 67 0 [[(0, 1)], [(1, 1)], [(2, 1)]]), (5, .slice true 7 0 outv14 .whole 1), (10, .int .i64 (nv0)), (11, .int .i64 (x15))], [⟨false, .flat 1 (.ints .i64 gv1)⟩, ⟨false, .avs [.slice true 3 0 gv2 .unk 1]⟩, ⟨false, .avs [.slice true 4 0 gv3 .unk 1]⟩, ⟨false, .hdr 5 gv4 gv5 gv6 gv7 none⟩, ⟨false, .hdr 6 gv8 gv9 gv10 gv11 none⟩, ⟨false, .flat 0 (.ints .i64 gv12)⟩, ⟨false, .flat 0 (.ints .i64 gv13)⟩, ⟨true, .hdr 8 0 gv16 gv17 gv18 none⟩, ⟨true, .flat 0 (.ints .i64 gv19)⟩]⟩
def Q56.sx0_0 (gv1 : Nat → Int) (gv2 : Nat) (gv3 : Nat) (gv4 : Nat) (gv5 : Nat) (gv6 : Nat → Nat) (gv7 : Nat → Nat) (gv8 : Nat) (gv9 : Nat) (gv10 : Nat → Nat) (gv11 : Nat → Nat) (gv12 : Nat → Int) (gv13 : Nat → Int) (ov26 : Nat) (ov27 : Nat) (ov28 : Nat → Nat) (ov29 : Nat → Nat) (ov30 : Nat → Int) : St := ⟨sl 33 [(5, .slice true 7 0 ov26 .whole 1)], [⟨false, .flat 1 (.ints .i64 gv1)⟩, ⟨false, .avs [.slice true 3 0 gv2 .unk 1]⟩, ⟨false, .avs [.slice true 4 0 gv3 .unk 1]⟩, ⟨false, .hdr 5 gv4 gv5 gv6 gv7 none⟩, ⟨false, .hdr 6 gv8 gv9 gv10 gv11 none⟩, ⟨false, .flat 0 (.ints .i64 gv12)⟩, ⟨false, .flat 0 (.ints .i64 gv13)⟩, ⟨true, .hdr 8 0 ov27 ov28 ov29 none⟩, ⟨true, .flat 0 (.ints .i64 ov30)⟩]⟩
def Q56.k1g {ρ : Type} (N : Nat) (L0 : St → Option ρ) (kv : XE → St → Option ρ) : XE → St → Option ρ := (blockK Q56.kp 7 2 (seqK (xcode (E57 N) ents Q56.kp 7 N (cB (cB (cB (cK (cA (cB (cB (cL (cK (cB (cA (cB (cB Q56.bd))))))))))))) 1) (blockK Q56.kp 7 1 (seqK (xcode (E57 N) ents Q56.kp 7 N (cB (cB (cB (cL (cK (cB (cA (cB (cB Q56.bd))))))))) 0) (roundK Q56.kp 7 0 L0 kv)))))
theorem Q56.k1_mix {ρ : Type} (N : Nat) (K : AV → Heap → Option ρ) (L0 : St → Option ρ) (gv1 : Nat → Int) (gv2 : Nat) (gv3 : Nat) (gv4 : Nat) (gv5 : Nat) (gv6 : Nat → Nat) (gv7 : Nat → Nat) (gv8 : Nat) (gv9 : Nat) (gv10 : Nat → Nat) (gv11 : Nat → Nat) (gv12 : Nat → Int) (gv13 : Nat → Int) : mixK (Q56.fin N K gv1 gv2 gv3 gv4 gv5 gv6 gv7 gv8 gv9 gv10 gv11 gv12 gv13 .ret) (Q56.k1g N L0 (Q56.k0 N K gv1 gv2 gv3 gv4 gv5 gv6 gv7 gv8 gv9 gv10 gv11 gv12 gv13)) = (Q56.k1g N L0 (Q56.k0 N K gv1 gv2 gv3 gv4 gv5 gv6 gv7 gv8 gv9 gv10 gv11 gv12 gv13)) := by
  funext e s; cases e <;> kernel_rfl
def Q56.st1 (nv0 : Int) (gv1 : Nat → Int) (gv2 : Nat) (gv3 : Nat) (gv4 : Nat) (gv5 : Nat) (gv6 : Nat → Nat) (gv7 : Nat → Nat) (gv8 : Nat) (gv9 : Nat) (gv10 : Nat → Nat) (gv11 : Nat → Nat) (gv12 : Nat → Int) (gv13 : Nat → Int) (outv14 : Nat) (x15 : Int) (gv16 : Nat) (gv17 : Nat → Nat) (gv18 : Nat → Nat) (gv19 : Nat → Int) (row20 : Nat) (x21 : Int) (gv22 : Nat → Int) : St := ⟨sl 33 [(0, .int .i64 (nv0)), (1, .fn 67 0 [[(0, 1)], [(1, 1)], [(2, 1)]]), (5, .slice true 7 0 outv14 .whole 1), (6, .int .i64 (x15)), (7, .slice true 8 0 row20 .whole 1), (10, .int .i64 (nv0)), (11, .int .i64 (x15)), (15, .int .i64 (nv0)), (16, .int .i64 (x21))], [⟨false, .flat 1 (.ints .i64 gv1)⟩, ⟨false, .avs [.slice true 3 0 gv2 .unk 1]⟩, ⟨false, .avs [.slice true 4 0 gv3 .unk 1]⟩, ⟨false, .hdr 5 gv4 gv5 gv6 gv7 none⟩, ⟨false, .hdr 6 gv8 gv9 gv10 gv11 none⟩, ⟨false, .flat 0 (.ints .i64 gv12)⟩, ⟨false, .flat 0 (.ints .i64 gv13)⟩, ⟨true, .hdr 9 0 gv16 gv17 gv18 none⟩, ⟨true, .flat 0 (.ints .i64 gv22)⟩, ⟨true, .flat 0 (.ints .i64 gv19)⟩]⟩
def Q56.sx1_0 (nv0 : Int) (gv1 : Nat → Int) (gv2 : Nat) (gv3 : Nat) (gv4 : Nat) (gv5 : Nat) (gv6 : Nat → Nat) (gv7 : Nat → Nat) (gv8 : Nat) (gv9 : Nat) (gv10 : Nat → Nat) (gv11 : Nat → Nat) (gv12 : Nat → Int) (gv13 : Nat → Int) (outv14 : Nat) (x15 : Int) (gv16 : Nat) (gv17 : Nat → Nat) (gv18 : Nat → Nat) (gv19 : Nat → Int) (ov24 : Nat) (ov25 : Nat → Int) : St := ⟨sl 33 [(0, .int .i64 (nv0)), (1, .fn 67 0 [[(0, 1)], [(1, 1)], [(2, 1)]]), (5, .slice true 7 0 outv14 .whole 1), (7, .slice true 8 0 ov24 .whole 1), (10, .int .i64 (nv0)), (11, .int .i64 (x15))], [⟨false, .flat 1 (.ints .i64 gv1)⟩, ⟨false, .avs [.slice true 3 0 gv2 .unk 1]⟩, ⟨false, .avs [.slice true 4 0 gv3 .unk 1]⟩, ⟨false, .hdr 5 gv4 gv5 gv6 gv7 none⟩, ⟨false, .hdr 6 gv8 gv9 gv10 gv11 none⟩, ⟨false, .flat 0 (.ints .i64 gv12)⟩, ⟨false, .flat 0 (.ints .i64 gv13)⟩, ⟨true, .hdr 9 0 gv16 gv17 gv18 none⟩, ⟨true, .flat 0 (.ints .i64 ov25)⟩, ⟨true, .flat 0 (.ints .i64 gv19)⟩]⟩
theorem Q56.b1_gen {ρ : Type} (N : Nat) (K : AV → Heap → Option ρ) (L1 : St → Option ρ) (kv : XE → St → Option ρ) (nv0 : Int) (gv1 : Nat → Int) (gv2 : Nat) (gv3 : Nat) (gv4 : Nat) (gv5 : Nat) (gv6 : Nat → Nat) (gv7 : Nat → Nat) (gv8 : Nat) (gv9 : Nat) (gv10 : Nat → Nat) (gv11 : Nat → Nat) (gv12 : Nat → Int) (gv13 : Nat → Int) (outv14 : Nat) (x15 : Int) (gv16 : Nat) (gv17 : Nat → Nat) (gv18 : Nat → Nat) (gv19 : Nat → Int) (row20 : Nat) (x21 : Int) (gv22 : Nat → Int) :
    xcode (E57 N) ents Q56.kp 7 N (cL (cK (cB (cA (cB (cB (cK (cA (cB (cB (cL (cK (cB (cA (cB (cB Q56.bd)))))))))))))))) 2 (Q56.st1 nv0 gv1 gv2 gv3 gv4 gv5 gv6 gv7 gv8 gv9 gv10 gv11 gv12 gv13 outv14 x15 gv16 gv17 gv18 gv19 row20 x21 gv22) (roundK Q56.kp 7 2 L1 (mixK (Q56.fin N K gv1 gv2 gv3 gv4 gv5 gv6 gv7 gv8 gv9 gv10 gv11 gv12 gv13 .ret) kv)) = (Q56.b1 N (fun d0 d1 d2 d3 d4 => K (.slice true 7 0 d0 .whole 1) [⟨false, .flat 1 (.ints .i64 gv1)⟩, ⟨false, .avs [.slice true 3 0 gv2 .unk 1]⟩, ⟨false, .avs [.slice true 4 0 gv3 .unk 1]⟩, ⟨false, .hdr 5 gv4 gv5 gv6 gv7 none⟩, ⟨false, .hdr 6 gv8 gv9 gv10 gv11 none⟩, ⟨false, .flat 0 (.ints .i64 gv12)⟩, ⟨false, .flat 0 (.ints .i64 gv13)⟩, ⟨true, .hdr 8 0 d1 d2 d3 none⟩, ⟨true, .flat 0 (.ints .i64 d4)⟩]) (fun row20 x21 gv22 => L1 (Q56.st1 nv0 gv1 gv2 gv3 gv4 gv5 gv6 gv7 gv8 gv9 gv10 gv11 gv12 gv13 outv14 x15 gv16 gv17 gv18 gv19 row20 x21 gv22)) (fun ov24 ov25 => kv (.exit 2) (Q56.sx1_0 nv0 gv1 gv2 gv3 gv4 gv5 gv6 gv7 gv8 gv9 gv10 gv11 gv12 gv13 outv14 x15 gv16 gv17 gv18 gv19 ov24 ov25)) nv0 gv1 gv2 gv3 gv5 gv6 gv7 gv9 gv10 gv11 gv12 gv13 x15 row20 x21 gv22) := by kernel_rfl
theorem Q56.b1_eq {ρ : Type} (N : Nat) (K : AV → Heap → Option ρ) (L0 : St → Option ρ) (L1 : St → Option ρ) (nv0 : Int) (gv1 : Nat → Int) (gv2 : Nat) (gv3 : Nat) (gv4 : Nat) (gv5 : Nat) (gv6 : Nat → Nat) (gv7 : Nat → Nat) (gv8 : Nat) (gv9 : Nat) (gv10 : Nat → Nat) (gv11 : Nat → Nat) (gv12 : Nat → Int) (gv13 : Nat → Int) (outv14 : Nat) (x15 : Int) (gv16 : Nat) (gv17 : Nat → Nat) (gv18 : Nat → Nat) (gv19 : Nat → Int) (row20 : Nat) (x21 : Int) (gv22 : Nat → Int) :
    xcode (E57 N) ents Q56.kp 7 N (cL (cK (cB (cA (cB (cB (cK (cA (cB (cB (cL (cK (cB (cA (cB (cB Q56.bd)))))))))))))))) 2 (Q56.st1 nv0 gv1 gv2 gv3 gv4 gv5 gv6 gv7 gv8 gv9 gv10 gv11 gv12 gv13 outv14 x15 gv16 gv17 gv18 gv19 row20 x21 gv22) (roundK Q56.kp 7 2 L1 (Q56.k1g N L0 (Q56.k0 N K gv1 gv2 gv3 gv4 gv5 gv6 gv7 gv8 gv9 gv10 gv11 gv12 gv13))) = (Q56.b1 N (fun d0 d1 d2 d3 d4 => K (.slice true 7 0 d0 .whole 1) [⟨false, .flat 1 (.ints .i64 gv1)⟩, ⟨false, .avs [.slice true 3 0 gv2 .unk 1]⟩, ⟨false, .avs [.slice true 4 0 gv3 .unk 1]⟩, ⟨false, .hdr 5 gv4 gv5 gv6 gv7 none⟩, ⟨false, .hdr 6 gv8 gv9 gv10 gv11 none⟩, ⟨false, .flat 0 (.ints .i64 gv12)⟩, ⟨false, .flat 0 (.ints .i64 gv13)⟩, ⟨true, .hdr 8 0 d1 d2 d3 none⟩, ⟨true, .flat 0 (.ints .i64 d4)⟩]) (fun row20 x21 gv22 => L1 (Q56.st1 nv0 gv1 gv2 gv3 gv4 gv5 gv6 gv7 gv8 gv9 gv10 gv11 gv12 gv13 outv14 x15 gv16 gv17 gv18 gv19 row20 x21 gv22)) (fun ov24 ov25 => (Q56.k1g N L0 (Q56.k0 N K gv1 gv2 gv3 gv4 gv5 gv6 gv7 gv8 gv9 gv10 gv11 gv12 gv13)) (.exit 2) (Q56.sx1_0 nv0 gv1 gv2 gv3 gv4 gv5 gv6 gv7 gv8 gv9 gv10 gv11 gv12 gv13 outv14 x15 gv16 gv17 gv18 gv19 ov24 ov25)) nv0 gv1 gv2 gv3 gv5 gv6 gv7 gv9 gv10 gv11 gv12 gv13 x15 row20 x21 gv22) := by
  have h := Q56.b1_gen N K L1 (Q56.k1g N L0 (Q56.k0 N K gv1 gv2 gv3 gv4 gv5 gv6 gv7 gv8 gv9 gv10 gv11 gv12 gv13)) nv0 gv1 gv2 gv3 gv4 gv5 gv6 gv7 gv8 gv9 gv10 gv11 gv12 gv13 outv14 x15 gv16 gv17 gv18 gv19 row20 x21 gv22
  rw [Q56.k1_mix] at h
  exact h
theorem Q56.a1_0_gen {ρ : Type} (N : Nat) (K : AV → Heap → Option ρ) (L0 : St → Option ρ) (kv : XE → St → Option ρ) (nv0 : Int) (gv1 : Nat → Int) (gv2 : Nat) (gv3 : Nat) (gv4 : Nat) (gv5 : Nat) (gv6 : Nat → Nat) (gv7 : Nat → Nat) (gv8 : Nat) (gv9 : Nat) (gv10 : Nat → Nat) (gv11 : Nat → Nat) (gv12 : Nat → Int) (gv13 : Nat → Int) (outv14 : Nat) (x15 : Int) (gv16 : Nat) (gv17 : Nat → Nat) (gv18 : Nat → Nat) (gv19 : Nat → Int) (ov24 : Nat) (ov25 : Nat → Int) :
    (Q56.k1g N L0 (mixK (Q56.fin N K gv1 gv2 gv3 gv4 gv5 gv6 gv7 gv8 gv9 gv10 gv11 gv12 gv13 .ret) kv)) (.exit 2) (Q56.sx1_0 nv0 gv1 gv2 gv3 gv4 gv5 gv6 gv7 gv8 gv9 gv10 gv11 gv12 gv13 outv14 x15 gv16 gv17 gv18 gv19 ov24 ov25) = (Q56.a1_0 N (fun d0 d1 d2 d3 d4 => K (.slice true 7 0 d0 .whole 1) [⟨false, .flat 1 (.ints .i64 gv1)⟩, ⟨false, .avs [.slice true 3 0 gv2 .unk 1]⟩, ⟨false, .avs [.slice true 4 0 gv3 .unk 1]⟩, ⟨false, .hdr 5 gv4 gv5 gv6 gv7 none⟩, ⟨false, .hdr 6 gv8 gv9 gv10 gv11 none⟩, ⟨false, .flat 0 (.ints .i64 gv12)⟩, ⟨false, .flat 0 (.ints .i64 gv13)⟩, ⟨true, .hdr 8 0 d1 d2 d3 none⟩, ⟨true, .flat 0 (.ints .i64 d4)⟩]) (fun outv14 x15 gv16 gv17 gv18 gv19 => L0 (Q56.st0 nv0 gv1 gv2 gv3 gv4 gv5 gv6 gv7 gv8 gv9 gv10 gv11 gv12 gv13 outv14 x15 gv16 gv17 gv18 gv19)) (fun ov26 ov27 ov28 ov29 ov30 => kv (.exit 0) (Q56.sx0_0 gv1 gv2 gv3 gv4 gv5 gv6 gv7 gv8 gv9 gv10 gv11 gv12 gv13 ov26 ov27 ov28 ov29 ov30)) outv14 x15 gv16 gv17 gv18 gv19 ov24 ov25) := by kernel_rfl
theorem Q56.a1_0_eq {ρ : Type} (N : Nat) (K : AV → Heap → Option ρ) (L0 : St → Option ρ) (nv0 : Int) (gv1 : Nat → Int) (gv2 : Nat) (gv3 : Nat) (gv4 : Nat) (gv5 : Nat) (gv6 : Nat → Nat) (gv7 : Nat → Nat) (gv8 : Nat) (gv9 : Nat) (gv10 : Nat → Nat) (gv11 : Nat → Nat) (gv12 : Nat → Int) (gv13 : Nat → Int) (outv14 : Nat) (x15 : Int) (gv16 : Nat) (gv17 : Nat → Nat) (gv18 : Nat → Nat) (gv19 : Nat → Int) (ov24 : Nat) (ov25 : Nat → Int) :
    (Q56.k1g N L0 (Q56.k0 N K gv1 gv2 gv3 gv4 gv5 gv6 gv7 gv8 gv9 gv10 gv11 gv12 gv13)) (.exit 2) (Q56.sx1_0 nv0 gv1 gv2 gv3 gv4 gv5 gv6 gv7 gv8 gv9 gv10 gv11 gv12 gv13 outv14 x15 gv16 gv17 gv18 gv19 ov24 ov25) = (Q56.a1_0 N (fun d0 d1 d2 d3 d4 => K (.slice true 7 0 d0 .whole 1) [⟨false, .flat 1 (.ints .i64 gv1)⟩, ⟨false, .avs [.slice true 3 0 gv2 .unk 1]⟩, ⟨false, .avs [.slice true 4 0 gv3 .unk 1]⟩, ⟨false, .hdr 5 gv4 gv5 gv6 gv7 none⟩, ⟨false, .hdr 6 gv8 gv9 gv10 gv11 none⟩, ⟨false, .flat 0 (.ints .i64 gv12)⟩, ⟨false, .flat 0 (.ints .i64 gv13)⟩, ⟨true, .hdr 8 0 d1 d2 d3 none⟩, ⟨true, .flat 0 (.ints .i64 d4)⟩]) (fun outv14 x15 gv16 gv17 gv18 gv19 => L0 (Q56.st0 nv0 gv1 gv2 gv3 gv4 gv5 gv6 gv7 gv8 gv9 gv10 gv11 gv12 gv13 outv14 x15 gv16 gv17 gv18 gv19)) (fun ov26 ov27 ov28 ov29 ov30 => (Q56.k0 N K gv1 gv2 gv3 gv4 gv5 gv6 gv7 gv8 gv9 gv10 gv11 gv12 gv13) (.exit 0) (Q56.sx0_0 gv1 gv2 gv3 gv4 gv5 gv6 gv7 gv8 gv9 gv10 gv11 gv12 gv13 ov26 ov27 ov28 ov29 ov30)) outv14 x15 gv16 gv17 gv18 gv19 ov24 ov25) := by
  have h := Q56.a1_0_gen N K L0 (Q56.k0 N K gv1 gv2 gv3 gv4 gv5 gv6 gv7 gv8 gv9 gv10 gv11 gv12 gv13) nv0 gv1 gv2 gv3 gv4 gv5 gv6 gv7 gv8 gv9 gv10 gv11 gv12 gv13 outv14 x15 gv16 gv17 gv18 gv19 ov24 ov25
  rw [Q56.k0_mix] at h
  exact h
theorem Q56.b0_gen {ρ : Type} (N : Nat) (K : AV → Heap → Option ρ) (L0 : St → Option ρ) (kv : XE → St → Option ρ) (nv0 : Int) (gv1 : Nat → Int) (gv2 : Nat) (gv3 : Nat) (gv4 : Nat) (gv5 : Nat) (gv6 : Nat → Nat) (gv7 : Nat → Nat) (gv8 : Nat) (gv9 : Nat) (gv10 : Nat → Nat) (gv11 : Nat → Nat) (gv12 : Nat → Int) (gv13 : Nat → Int) (outv14 : Nat) (x15 : Int) (gv16 : Nat) (gv17 : Nat → Nat) (gv18 : Nat → Nat) (gv19 : Nat → Int) :
    xcode (E57 N) ents Q56.kp 7 N (cL (cK (cB (cA (cB (cB Q56.bd)))))) 0 (Q56.st0 nv0 gv1 gv2 gv3 gv4 gv5 gv6 gv7 gv8 gv9 gv10 gv11 gv12 gv13 outv14 x15 gv16 gv17 gv18 gv19) (roundK Q56.kp 7 0 L0 (mixK (Q56.fin N K gv1 gv2 gv3 gv4 gv5 gv6 gv7 gv8 gv9 gv10 gv11 gv12 gv13 .ret) kv)) = (Q56.b0 N (fun d0 d1 d2 d3 d4 => K (.slice true 7 0 d0 .whole 1) [⟨false, .flat 1 (.ints .i64 gv1)⟩, ⟨false, .avs [.slice true 3 0 gv2 .unk 1]⟩, ⟨false, .avs [.slice true 4 0 gv3 .unk 1]⟩, ⟨false, .hdr 5 gv4 gv5 gv6 gv7 none⟩, ⟨false, .hdr 6 gv8 gv9 gv10 gv11 none⟩, ⟨false, .flat 0 (.ints .i64 gv12)⟩, ⟨false, .flat 0 (.ints .i64 gv13)⟩, ⟨true, .hdr 8 0 d1 d2 d3 none⟩, ⟨true, .flat 0 (.ints .i64 d4)⟩]) (fun row20 x21 gv22 => xloop (xcode (E57 N) ents Q56.kp 7 N (cL (cK (cB (cA (cB (cB (cK (cA (cB (cB (cL (cK (cB (cA (cB (cB Q56.bd)))))))))))))))) 2) Q56.kp 7 2 N (Q56.st1 nv0 gv1 gv2 gv3 gv4 gv5 gv6 gv7 gv8 gv9 gv10 gv11 gv12 gv13 outv14 x15 gv16 gv17 gv18 gv19 row20 x21 gv22) (Q56.k1g N L0 (mixK (Q56.fin N K gv1 gv2 gv3 gv4 gv5 gv6 gv7 gv8 gv9 gv10 gv11 gv12 gv13 .ret) kv))) (fun outv14 x15 gv16 gv17 gv18 gv19 => L0 (Q56.st0 nv0 gv1 gv2 gv3 gv4 gv5 gv6 gv7 gv8 gv9 gv10 gv11 gv12 gv13 outv14 x15 gv16 gv17 gv18 gv19)) (fun ov26 ov27 ov28 ov29 ov30 => kv (.exit 0) (Q56.sx0_0 gv1 gv2 gv3 gv4 gv5 gv6 gv7 gv8 gv9 gv10 gv11 gv12 gv13 ov26 ov27 ov28 ov29 ov30)) nv0 outv14 x15 gv16 gv17 gv18 gv19) := by kernel_rfl
theorem Q56.b0_eq {ρ : Type} (N : Nat) (K : AV → Heap → Option ρ) (L0 : St → Option ρ) (nv0 : Int) (gv1 : Nat → Int) (gv2 : Nat) (gv3 : Nat) (gv4 : Nat) (gv5 : Nat) (gv6 : Nat → Nat) (gv7 : Nat → Nat) (gv8 : Nat) (gv9 : Nat) (gv10 : Nat → Nat) (gv11 : Nat → Nat) (gv12 : Nat → Int) (gv13 : Nat → Int) (outv14 : Nat) (x15 : Int) (gv16 : Nat) (gv17 : Nat → Nat) (gv18 : Nat → Nat) (gv19 : Nat → Int) :
    xcode (E57 N) ents Q56.kp 7 N (cL (cK (cB (cA (cB (cB Q56.bd)))))) 0 (Q56.st0 nv0 gv1 gv2 gv3 gv4 gv5 gv6 gv7 gv8 gv9 gv10 gv11 gv12 gv13 outv14 x15 gv16 gv17 gv18 gv19) (roundK Q56.kp 7 0 L0 (Q56.k0 N K gv1 gv2 gv3 gv4 gv5 gv6 gv7 gv8 gv9 gv10 gv11 gv12 gv13)) = (Q56.b0 N (fun d0 d1 d2 d3 d4 => K (.slice true 7 0 d0 .whole 1) [⟨false, .flat 1 (.ints .i64 gv1)⟩, ⟨false, .avs [.slice true 3 0 gv2 .unk 1]⟩, ⟨false, .avs [.slice true 4 0 gv3 .unk 1]⟩, ⟨false, .hdr 5 gv4 gv5 gv6 gv7 none⟩, ⟨false, .hdr 6 gv8 gv9 gv10 gv11 none⟩, ⟨false, .flat 0 (.ints .i64 gv12)⟩, ⟨false, .flat 0 (.ints .i64 gv13)⟩, ⟨true, .hdr 8 0 d1 d2 d3 none⟩, ⟨true, .flat 0 (.ints .i64 d4)⟩]) (fun row20 x21 gv22 => xloop (xcode (E57 N) ents Q56.kp 7 N (cL (cK (cB (cA (cB (cB (cK (cA (cB (cB (cL (cK (cB (cA (cB (cB Q56.bd)))))))))))))))) 2) Q56.kp 7 2 N (Q56.st1 nv0 gv1 gv2 gv3 gv4 gv5 gv6 gv7 gv8 gv9 gv10 gv11 gv12 gv13 outv14 x15 gv16 gv17 gv18 gv19 row20 x21 gv22) (Q56.k1g N L0 (Q56.k0 N K gv1 gv2 gv3 gv4 gv5 gv6 gv7 gv8 gv9 gv10 gv11 gv12 gv13))) (fun outv14 x15 gv16 gv17 gv18 gv19 => L0 (Q56.st0 nv0 gv1 gv2 gv3 gv4 gv5 gv6 gv7 gv8 gv9 gv10 gv11 gv12 gv13 outv14 x15 gv16 gv17 gv18 gv19)) (fun ov26 ov27 ov28 ov29 ov30 => (Q56.k0 N K gv1 gv2 gv3 gv4 gv5 gv6 gv7 gv8 gv9 gv10 gv11 gv12 gv13) (.exit 0) (Q56.sx0_0 gv1 gv2 gv3 gv4 gv5 gv6 gv7 gv8 gv9 gv10 gv11 gv12 gv13 ov26 ov27 ov28 ov29 ov30)) nv0 outv14 x15 gv16 gv17 gv18 gv19) := by
  have h := Q56.b0_gen N K L0 (Q56.k0 N K gv1 gv2 gv3 gv4 gv5 gv6 gv7 gv8 gv9 gv10 gv11 gv12 gv13) nv0 gv1 gv2 gv3 gv4 gv5 gv6 gv7 gv8 gv9 gv10 gv11 gv12 gv13 outv14 x15 gv16 gv17 gv18 gv19
  rw [Q56.k0_mix] at h
  exact h
theorem Q56.a0_0_eq {ρ : Type} (N : Nat) (K : AV → Heap → Option ρ) (gv1 : Nat → Int) (gv2 : Nat) (gv3 : Nat) (gv4 : Nat) (gv5 : Nat) (gv6 : Nat → Nat) (gv7 : Nat → Nat) (gv8 : Nat) (gv9 : Nat) (gv10 : Nat → Nat) (gv11 : Nat → Nat) (gv12 : Nat → Int) (gv13 : Nat → Int) (ov26 : Nat) (ov27 : Nat) (ov28 : Nat → Nat) (ov29 : Nat → Nat) (ov30 : Nat → Int) :
    (Q56.k0 N K gv1 gv2 gv3 gv4 gv5 gv6 gv7 gv8 gv9 gv10 gv11 gv12 gv13) (.exit 0) (Q56.sx0_0 gv1 gv2 gv3 gv4 gv5 gv6 gv7 gv8 gv9 gv10 gv11 gv12 gv13 ov26 ov27 ov28 ov29 ov30) = (Q56.a0_0 N (fun d0 d1 d2 d3 d4 => K (.slice true 7 0 d0 .whole 1) [⟨false, .flat 1 (.ints .i64 gv1)⟩, ⟨false, .avs [.slice true 3 0 gv2 .unk 1]⟩, ⟨false, .avs [.slice true 4 0 gv3 .unk 1]⟩, ⟨false, .hdr 5 gv4 gv5 gv6 gv7 none⟩, ⟨false, .hdr 6 gv8 gv9 gv10 gv11 none⟩, ⟨false, .flat 0 (.ints .i64 gv12)⟩, ⟨false, .flat 0 (.ints .i64 gv13)⟩, ⟨true, .hdr 8 0 d1 d2 d3 none⟩, ⟨true, .flat 0 (.ints .i64 d4)⟩]) ov26 ov27 ov28 ov29 ov30) := by kernel_rfl
theorem Q56.l1_eq {ρ : Type} (N : Nat) (K : AV → Heap → Option ρ) (L0 : St → Option ρ) (nv0 : Int) (gv1 : Nat → Int) (gv2 : Nat) (gv3 : Nat) (gv4 : Nat) (gv5 : Nat) (gv6 : Nat → Nat) (gv7 : Nat → Nat) (gv8 : Nat) (gv9 : Nat) (gv10 : Nat → Nat) (gv11 : Nat → Nat) (gv12 : Nat → Int) (gv13 : Nat → Int) (outv14 : Nat) (x15 : Int) (gv16 : Nat) (gv17 : Nat → Nat) (gv18 : Nat → Nat) (gv19 : Nat → Int) :
    ∀ (m : Nat) (row20 : Nat) (x21 : Int) (gv22 : Nat → Int), xloop (xcode (E57 N) ents Q56.kp 7 N (cL (cK (cB (cA (cB (cB (cK (cA (cB (cB (cL (cK (cB (cA (cB (cB Q56.bd)))))))))))))))) 2) Q56.kp 7 2 m (Q56.st1 nv0 gv1 gv2 gv3 gv4 gv5 gv6 gv7 gv8 gv9 gv10 gv11 gv12 gv13 outv14 x15 gv16 gv17 gv18 gv19 row20 x21 gv22) (Q56.k1g N L0 (Q56.k0 N K gv1 gv2 gv3 gv4 gv5 gv6 gv7 gv8 gv9 gv10 gv11 gv12 gv13)) = (Q56.l1 N (fun d0 d1 d2 d3 d4 => K (.slice true 7 0 d0 .whole 1) [⟨false, .flat 1 (.ints .i64 gv1)⟩, ⟨false, .avs [.slice true 3 0 gv2 .unk 1]⟩, ⟨false, .avs [.slice true 4 0 gv3 .unk 1]⟩, ⟨false, .hdr 5 gv4 gv5 gv6 gv7 none⟩, ⟨false, .hdr 6 gv8 gv9 gv10 gv11 none⟩, ⟨false, .flat 0 (.ints .i64 gv12)⟩, ⟨false, .flat 0 (.ints .i64 gv13)⟩, ⟨true, .hdr 8 0 d1 d2 d3 none⟩, ⟨true, .flat 0 (.ints .i64 d4)⟩]) nv0 gv1 gv2 gv3 gv5 gv6 gv7 gv9 gv10 gv11 gv12 gv13 x15 (fun ov24 ov25 => (Q56.k1g N L0 (Q56.k0 N K gv1 gv2 gv3 gv4 gv5 gv6 gv7 gv8 gv9 gv10 gv11 gv12 gv13)) (.exit 2) (Q56.sx1_0 nv0 gv1 gv2 gv3 gv4 gv5 gv6 gv7 gv8 gv9 gv10 gv11 gv12 gv13 outv14 x15 gv16 gv17 gv18 gv19 ov24 ov25)) m row20 x21 gv22) := by
  intro m
  induction m with
  | zero => intros; rfl
  | succ m ih =>
    intro row20 x21 gv22
    refine (Q56.b1_eq N K L0 (fun s => xloop (xcode (E57 N) ents Q56.kp 7 N (cL (cK (cB (cA (cB (cB (cK (cA (cB (cB (cL (cK (cB (cA (cB (cB Q56.bd)))))))))))))))) 2) Q56.kp 7 2 m s (Q56.k1g N L0 (Q56.k0 N K gv1 gv2 gv3 gv4 gv5 gv6 gv7 gv8 gv9 gv10 gv11 gv12 gv13))) nv0 gv1 gv2 gv3 gv4 gv5 gv6 gv7 gv8 gv9 gv10 gv11 gv12 gv13 outv14 x15 gv16 gv17 gv18 gv19 row20 x21 gv22).trans ?_
    simp only [ih]
    kernel_rfl
theorem Q56.l0_eq {ρ : Type} (N : Nat) (K : AV → Heap → Option ρ) (nv0 : Int) (gv1 : Nat → Int) (gv2 : Nat) (gv3 : Nat) (gv4 : Nat) (gv5 : Nat) (gv6 : Nat → Nat) (gv7 : Nat → Nat) (gv8 : Nat) (gv9 : Nat) (gv10 : Nat → Nat) (gv11 : Nat → Nat) (gv12 : Nat → Int) (gv13 : Nat → Int) :
    ∀ (m : Nat) (outv14 : Nat) (x15 : Int) (gv16 : Nat) (gv17 : Nat → Nat) (gv18 : Nat → Nat) (gv19 : Nat → Int), xloop (xcode (E57 N) ents Q56.kp 7 N (cL (cK (cB (cA (cB (cB Q56.bd)))))) 0) Q56.kp 7 0 m (Q56.st0 nv0 gv1 gv2 gv3 gv4 gv5 gv6 gv7 gv8 gv9 gv10 gv11 gv12 gv13 outv14 x15 gv16 gv17 gv18 gv19) (Q56.k0 N K gv1 gv2 gv3 gv4 gv5 gv6 gv7 gv8 gv9 gv10 gv11 gv12 gv13) = (Q56.l0 N (fun d0 d1 d2 d3 d4 => K (.slice true 7 0 d0 .whole 1) [⟨false, .flat 1 (.ints .i64 gv1)⟩, ⟨false, .avs [.slice true 3 0 gv2 .unk 1]⟩, ⟨false, .avs [.slice true 4 0 gv3 .unk 1]⟩, ⟨false, .hdr 5 gv4 gv5 gv6 gv7 none⟩, ⟨false, .hdr 6 gv8 gv9 gv10 gv11 none⟩, ⟨false, .flat 0 (.ints .i64 gv12)⟩, ⟨false, .flat 0 (.ints .i64 gv13)⟩, ⟨true, .hdr 8 0 d1 d2 d3 none⟩, ⟨true, .flat 0 (.ints .i64 d4)⟩]) nv0 gv1 gv2 gv3 gv5 gv6 gv7 gv9 gv10 gv11 gv12 gv13 (fun ov26 ov27 ov28 ov29 ov30 => (Q56.k0 N K gv1 gv2 gv3 gv4 gv5 gv6 gv7 gv8 gv9 gv10 gv11 gv12 gv13) (.exit 0) (Q56.sx0_0 gv1 gv2 gv3 gv4 gv5 gv6 gv7 gv8 gv9 gv10 gv11 gv12 gv13 ov26 ov27 ov28 ov29 ov30)) m outv14 x15 gv16 gv17 gv18 gv19) := by
  intro m
  induction m with
  | zero => intros; rfl
  | succ m ih =>
    intro outv14 x15 gv16 gv17 gv18 gv19
    refine (Q56.b0_eq N K (fun s => xloop (xcode (E57 N) ents Q56.kp 7 N (cL (cK (cB (cA (cB (cB Q56.bd)))))) 0) Q56.kp 7 0 m s (Q56.k0 N K gv1 gv2 gv3 gv4 gv5 gv6 gv7 gv8 gv9 gv10 gv11 gv12 gv13)) nv0 gv1 gv2 gv3 gv4 gv5 gv6 gv7 gv8 gv9 gv10 gv11 gv12 gv13 outv14 x15 gv16 gv17 gv18 gv19).trans ?_
    simp only [ih, Q56.l1_eq, Q56.a1_0_eq]
    kernel_rfl
theorem Q56.s_eq {ρ : Type} (N : Nat) (K : AV → Heap → Option ρ) (nv0 : Int) (gv1 : Nat → Int) (gv2 : Nat) (gv3 : Nat) (gv4 : Nat) (gv5 : Nat) (gv6 : Nat → Nat) (gv7 : Nat → Nat) (gv8 : Nat) (gv9 : Nat) (gv10 : Nat → Nat) (gv11 : Nat → Nat) (gv12 : Nat → Int) (gv13 : Nat → Int) :
    xbody (E57 N) ents Q56.kp N Try.f65 Q56.bd [.int .i64 (nv0), .fn 67 0 [[(0, 1)], [(1, 1)], [(2, 1)]]] [⟨false, .flat 1 (.ints .i64 gv1)⟩, ⟨false, .avs [.slice true 3 0 gv2 .unk 1]⟩, ⟨false, .avs [.slice true 4 0 gv3 .unk 1]⟩, ⟨false, .hdr 5 gv4 gv5 gv6 gv7 none⟩, ⟨false, .hdr 6 gv8 gv9 gv10 gv11 none⟩, ⟨false, .flat 0 (.ints .i64 gv12)⟩, ⟨false, .flat 0 (.ints .i64 gv13)⟩] K = (Q56.s N (fun d0 d1 d2 d3 d4 => K (.slice true 7 0 d0 .whole 1) [⟨false, .flat 1 (.ints .i64 gv1)⟩, ⟨false, .avs [.slice true 3 0 gv2 .unk 1]⟩, ⟨false, .avs [.slice true 4 0 gv3 .unk 1]⟩, ⟨false, .hdr 5 gv4 gv5 gv6 gv7 none⟩, ⟨false, .hdr 6 gv8 gv9 gv10 gv11 none⟩, ⟨false, .flat 0 (.ints .i64 gv12)⟩, ⟨false, .flat 0 (.ints .i64 gv13)⟩, ⟨true, .hdr 8 0 d1 d2 d3 none⟩, ⟨true, .flat 0 (.ints .i64 d4)⟩]) (fun outv14 x15 gv16 gv17 gv18 gv19 => xloop (xcode (E57 N) ents Q56.kp 7 N (cL (cK (cB (cA (cB (cB Q56.bd)))))) 0) Q56.kp 7 0 N (Q56.st0 nv0 gv1 gv2 gv3 gv4 gv5 gv6 gv7 gv8 gv9 gv10 gv11 gv12 gv13 outv14 x15 gv16 gv17 gv18 gv19) (Q56.k0 N K gv1 gv2 gv3 gv4 gv5 gv6 gv7 gv8 gv9 gv10 gv11 gv12 gv13))) := by kernel_rfl
theorem Q56.eq {ρ : Type} (N : Nat) (K : AV → Heap → Option ρ) (nv0 : Int) (gv1 : Nat → Int) (gv2 : Nat) (gv3 : Nat) (gv4 : Nat) (gv5 : Nat) (gv6 : Nat → Nat) (gv7 : Nat → Nat) (gv8 : Nat) (gv9 : Nat) (gv10 : Nat → Nat) (gv11 : Nat → Nat) (gv12 : Nat → Int) (gv13 : Nat → Int) :
    xbody (E57 N) ents Q56.kp N Try.f65 Q56.bd [.int .i64 (nv0), .fn 67 0 [[(0, 1)], [(1, 1)], [(2, 1)]]] [⟨false, .flat 1 (.ints .i64 gv1)⟩, ⟨false, .avs [.slice true 3 0 gv2 .unk 1]⟩, ⟨false, .avs [.slice true 4 0 gv3 .unk 1]⟩, ⟨false, .hdr 5 gv4 gv5 gv6 gv7 none⟩, ⟨false, .hdr 6 gv8 gv9 gv10 gv11 none⟩, ⟨false, .flat 0 (.ints .i64 gv12)⟩, ⟨false, .flat 0 (.ints .i64 gv13)⟩] K = (Q56 N (fun d0 d1 d2 d3 d4 => K (.slice true 7 0 d0 .whole 1) [⟨false, .flat 1 (.ints .i64 gv1)⟩, ⟨false, .avs [.slice true 3 0 gv2 .unk 1]⟩, ⟨false, .avs [.slice true 4 0 gv3 .unk 1]⟩, ⟨false, .hdr 5 gv4 gv5 gv6 gv7 none⟩, ⟨false, .hdr 6 gv8 gv9 gv10 gv11 none⟩, ⟨false, .flat 0 (.ints .i64 gv12)⟩, ⟨false, .flat 0 (.ints .i64 gv13)⟩, ⟨true, .hdr 8 0 d1 d2 d3 none⟩, ⟨true, .flat 0 (.ints .i64 d4)⟩]) nv0 gv1 gv2 gv3 gv4 gv5 gv6 gv7 gv8 gv9 gv10 gv11 gv12 gv13) := by
  refine (Q56.s_eq N K nv0 gv1 gv2 gv3 gv4 gv5 gv6 gv7 gv8 gv9 gv10 gv11 gv12 gv13).trans ?_
  simp only [Q56.l0_eq, Q56.a0_0_eq]
  kernel_rfl
def Q59.kp : Keeps := ⟨[(0, [0, 1, 5, 10, 11], [], []), (2, [0, 1, 5, 6, 7, 10, 11, 15, 16], [], [])], [(0, [5], [], []), (2, [0, 1, 5, 7, 10, 11], [], [])], []⟩
def Q59.bd : Code := bodyOf Try.f65
def Q59.fin {ρ : Type} (N : Nat) (K : AV → Heap → Option ρ) (gv1 : Nat → Int) : XE → St → Option ρ := finK (E57 N) Q59.kp.fins Try.f65 [⟨false, .flat 1 (.ints .i64 gv1)⟩] K
def Q59.k0 {ρ : Type} (N : Nat) (K : AV → Heap → Option ρ) (gv1 : Nat → Int) : XE → St → Option ρ := (blockK Q59.kp 1 0 (seqK (xcode (E57 N) ents Q59.kp 1 N (cB (cB (cB Q59.bd))) 0) (Q59.fin N K gv1)))
theorem Q59.k0_mix {ρ : Type} (N : Nat) (K : AV → Heap → Option ρ) (gv1 : Nat → Int) : mixK (Q59.fin N K gv1 .ret) (Q59.k0 N K gv1) = (Q59.k0 N K gv1) := by
  funext e s; cases e <;> kernel_rfl
def Q59.st0 (nv0 : Int) (gv1 : Nat → Int) (outv2 : Nat) (x3 : Int) (gv4 : Nat) (gv5 : Nat → Nat) (gv6 : Nat → Nat) (gv7 : Nat → Int) : St := ⟨sl 33 [(0, .int .i64 (nv0)), (1, .fn 68 0 [[(0, 1)]]), (5, .slice true 1 0 outv2 .whole 1), (10, .int .i64 (nv0)), (11, .int .i64 (x3))], [⟨false, .flat 1 (.ints .i64 gv1)⟩, ⟨true, .hdr 2 0 gv4 gv5 gv6 none⟩, ⟨true, .flat 0 (.ints .i64 gv7)⟩]⟩
def Q59.sx0_0 (gv1 : Nat → Int) (ov14 : Nat) (ov15 : Nat) (ov16 : Nat → Nat) (ov17 : Nat → Nat) (ov18 : Nat → Int) : St := ⟨sl 33 [(5, .slice true 1 0 ov14 .whole 1)], [⟨false, .flat 1 (.ints .i64 gv1)⟩, ⟨true, .hdr 2 0 ov15 ov16 ov17 none⟩, ⟨true, .flat 0 (.ints .i64 ov18)⟩]⟩
def Q59.k1g {ρ : Type} (N : Nat) (L0 : St → Option ρ) (kv : XE → St → Option ρ) : XE → St → Option ρ := (blockK Q59.kp 1 2 (seqK (xcode (E57 N) ents Q59.kp 1 N (cB (cB (cB (cK (cA (cB (cB (cL (cK (cB (cA (cB (cB Q59.bd))))))))))))) 1) (blockK Q59.kp 1 1 (seqK (xcode (E57 N) ents Q59.kp 1 N (cB (cB (cB (cL (cK (cB (cA (cB (cB Q59.bd))))))))) 0) (roundK Q59.kp 1 0 L0 kv)))))
theorem Q59.k1_mix {ρ : Type} (N : Nat) (K : AV → Heap → Option ρ) (L0 : St → Option ρ) (gv1 : Nat → Int) : mixK (Q59.fin N K gv1 .ret) (Q59.k1g N L0 (Q59.k0 N K gv1)) = (Q59.k1g N L0 (Q59.k0 N K gv1)) := by
  funext e s; cases e <;> kernel_rfl
def Q59.st1 (nv0 : Int) (gv1 : Nat → Int) (outv2 : Nat) (x3 : Int) (gv4 : Nat) (gv5 : Nat → Nat) (gv6 : Nat → Nat) (gv7 : Nat → Int) (row8 : Nat) (x9 : Int) (gv10 : Nat → Int) : St := ⟨sl 33 [(0, .int .i64 (nv0)), (1, .fn 68 0 [[(0, 1)]]), (5, .slice true 1 0 outv2 .whole 1), (6, .int .i64 (x3)), (7, .slice true 2 0 row8 .whole 1), (10, .int .i64 (nv0)), (11, .int .i64 (x3)), (15, .int .i64 (nv0)), (16, .int .i64 (x9))], [⟨false, .flat 1 (.ints .i64 gv1)⟩, ⟨true, .hdr 3 0 gv4 gv5 gv6 none⟩, ⟨true, .flat 0 (.ints .i64 gv10)⟩, ⟨true, .flat 0 (.ints .i64 gv7)⟩]⟩
def Q59.sx1_0 (nv0 : Int) (gv1 : Nat → Int) (outv2 : Nat) (x3 : Int) (gv4 : Nat) (gv5 : Nat → Nat) (gv6 : Nat → Nat) (gv7 : Nat → Int) (ov12 : Nat) (ov13 : Nat → Int) : St := ⟨sl 33 [(0, .int .i64 (nv0)), (1, .fn 68 0 [[(0, 1)]]), (5, .slice true 1 0 outv2 .whole 1), (7, .slice true 2 0 ov12 .whole 1), (10, .int .i64 (nv0)), (11, .int .i64 (x3))], [⟨false, .flat 1 (.ints .i64 gv1)⟩, ⟨true, .hdr 3 0 gv4 gv5 gv6 none⟩, ⟨true, .flat 0 (.ints .i64 ov13)⟩, ⟨true, .flat 0 (.ints .i64 gv7)⟩]⟩
theorem Q59.b1_gen {ρ : Type} (N : Nat) (K : AV → Heap → Option ρ) (L1 : St → Option ρ) (kv : XE → St → Option ρ) (nv0 : Int) (gv1 : Nat → Int) (outv2 : Nat) (x3 : Int) (gv4 : Nat) (gv5 : Nat → Nat) (gv6 : Nat → Nat) (gv7 : Nat → Int) (row8 : Nat) (x9 : Int) (gv10 : Nat → Int) :
    xcode (E57 N) ents Q59.kp 1 N (cL (cK (cB (cA (cB (cB (cK (cA (cB (cB (cL (cK (cB (cA (cB (cB Q59.bd)))))))))))))))) 2 (Q59.st1 nv0 gv1 outv2 x3 gv4 gv5 gv6 gv7 row8 x9 gv10) (roundK Q59.kp 1 2 L1 (mixK (Q59.fin N K gv1 .ret) kv)) = (Q59.b1 N (fun d0 d1 d2 d3 d4 => K (.slice true 1 0 d0 .whole 1) [⟨false, .flat 1 (.ints .i64 gv1)⟩, ⟨true, .hdr 2 0 d1 d2 d3 none⟩, ⟨true, .flat 0 (.ints .i64 d4)⟩]) (fun row8 x9 gv10 => L1 (Q59.st1 nv0 gv1 outv2 x3 gv4 gv5 gv6 gv7 row8 x9 gv10)) (fun ov12 ov13 => kv (.exit 2) (Q59.sx1_0 nv0 gv1 outv2 x3 gv4 gv5 gv6 gv7 ov12 ov13)) nv0 gv1 x3 row8 x9 gv10) := by kernel_rfl
theorem Q59.b1_eq {ρ : Type} (N : Nat) (K : AV → Heap → Option ρ) (L0 : St → Option ρ) (L1 : St → Option ρ) (nv0 : Int) (gv1 : Nat → Int) (outv2 : Nat) (x3 : Int) (gv4 : Nat) (gv5 : Nat → Nat) (gv6 : Nat → Nat) (gv7 : Nat → Int) (row8 : Nat) (x9 : Int) (gv10 : Nat → Int) :
    xcode (E57 N) ents Q59.kp 1 N (cL (cK (cB (cA (cB (cB (cK (cA (cB (cB (cL (cK (cB (cA (cB (cB Q59.bd)))))))))))))))) 2 (Q59.st1 nv0 gv1 outv2 x3 gv4 gv5 gv6 gv7 row8 x9 gv10) (roundK Q59.kp 1 2 L1 (Q59.k1g N L0 (Q59.k0 N K gv1))) = (Q59.b1 N (fun d0 d1 d2 d3 d4 => K (.slice true 1 0 d0 .whole 1) [⟨false, .flat 1 (.ints .i64 gv1)⟩, ⟨true, .hdr 2 0 d1 d2 d3 none⟩, ⟨true, .flat 0 (.ints .i64 d4)⟩]) (fun row8 x9 gv10 => L1 (Q59.st1 nv0 gv1 outv2 x3 gv4 gv5 gv6 gv7 row8 x9 gv10)) (fun ov12 ov13 => (Q59.k1g N L0 (Q59.k0 N K gv1)) (.exit 2) (Q59.sx1_0 nv0 gv1 outv2 x3 gv4 gv5 gv6 gv7 ov12 ov13)) nv0 gv1 x3 row8 x9 gv10) := by
  have h := Q59.b1_gen N K L1 (Q59.k1g N L0 (Q59.k0 N K gv1)) nv0 gv1 outv2 x3 gv4 gv5 gv6 gv7 row8 x9 gv10
  rw [Q59.k1_mix] at h
  exact h
theorem Q59.a1_0_gen {ρ : Type} (N : Nat) (K : AV → Heap → Option ρ) (L0 : St → Option ρ) (kv : XE → St → Option ρ) (nv0 : Int) (gv1 : Nat → Int) (outv2 : Nat) (x3 : Int) (gv4 : Nat) (gv5 : Nat → Nat) (gv6 : Nat → Nat) (gv7 : Nat → Int) (ov12 : Nat) (ov13 : Nat → Int) :
    (Q59.k1g N L0 (mixK (Q59.fin N K gv1 .ret) kv)) (.exit 2) (Q59.sx1_0 nv0 gv1 outv2 x3 gv4 gv5 gv6 gv7 ov12 ov13) = (Q59.a1_0 N (fun d0 d1 d2 d3 d4 => K (.slice true 1 0 d0 .whole 1) [⟨false, .flat 1 (.ints .i64 gv1)⟩, ⟨true, .hdr 2 0 d1 d2 d3 none⟩, ⟨true, .flat 0 (.ints .i64 d4)⟩]) (fun outv2 x3 gv4 gv5 gv6 gv7 => L0 (Q59.st0 nv0 gv1 outv2 x3 gv4 gv5 gv6 gv7)) (fun ov14 ov15 ov16 ov17 ov18 => kv (.exit 0) (Q59.sx0_0 gv1 ov14 ov15 ov16 ov17 ov18)) outv2 x3 gv4 gv5 gv6 gv7 ov12 ov13) := by kernel_rfl
theorem Q59.a1_0_eq {ρ : Type} (N : Nat) (K : AV → Heap → Option ρ) (L0 : St → Option ρ) (nv0 : Int) (gv1 : Nat → Int) (outv2 : Nat) (x3 : Int) (gv4 : Nat) (gv5 : Nat → Nat) (gv6 : Nat → Nat) (gv7 : Nat → Int) (ov12 : Nat) (ov13 : Nat → Int) :
    (Q59.k1g N L0 (Q59.k0 N K gv1)) (.exit 2) (Q59.sx1_0 nv0 gv1 outv2 x3 gv4 gv5 gv6 gv7 ov12 ov13) = (Q59.a1_0 N (fun d0 d1 d2 d3 d4 => K (.slice true 1 0 d0 .whole 1) [⟨false, .flat 1 (.ints .i64 gv1)⟩, ⟨true, .hdr 2 0 d1 d2 d3 none⟩, ⟨true, .flat 0 (.ints .i64 d4)⟩]) (fun outv2 x3 gv4 gv5 gv6 gv7 => L0 (Q59.st0 nv0 gv1 outv2 x3 gv4 gv5 gv6 gv7)) (fun ov14 ov15 ov16 ov17 ov18 => (Q59.k0 N K gv1) (.exit 0) (Q59.sx0_0 gv1 ov14 ov15 ov16 ov17 ov18)) outv2 x3 gv4 gv5 gv6 gv7 ov12 ov13) := by
  have h := Q59.a1_0_gen N K L0 (Q59.k0 N K gv1) nv0 gv1 outv2 x3 gv4 gv5 gv6 gv7 ov12 ov13
  rw [Q59.k0_mix] at h
  exact h
theorem Q59.b0_gen {ρ : Type} (N : Nat) (K : AV → Heap → Option ρ) (L0 : St → Option ρ) (kv : XE → St → Option ρ) (nv0 : Int) (gv1 : Nat → Int) (outv2 : Nat) (x3 : Int) (gv4 : Nat) (gv5 : Nat → Nat) (gv6 : Nat → Nat) (gv7 : Nat → Int) :
    xcode (E57 N) ents Q59.kp 1 N (cL (cK (cB (cA (cB (cB Q59.bd)))))) 0 (Q59.st0 nv0 gv1 outv2 x3 gv4 gv5 gv6 gv7) (roundK Q59.kp 1 0 L0 (mixK (Q59.fin N K gv1 .ret) kv)) = (Q59.b0 N (fun d0 d1 d2 d3 d4 => K (.slice true 1 0 d0 .whole 1) [⟨false, .flat 1 (.ints .i64 gv1)⟩, ⟨true, .hdr 2 0 d1 d2 d3 none⟩, ⟨true, .flat 0 (.ints .i64 d4)⟩]) (fun row8 x9 gv10 => xloop (xcode (E57 N) ents Q59.kp 1 N (cL (cK (cB (cA (cB (cB (cK (cA (cB (cB (cL (cK (cB (cA (cB (cB Q59.bd)))))))))))))))) 2) Q59.kp 1 2 N (Q59.st1 nv0 gv1 outv2 x3 gv4 gv5 gv6 gv7 row8 x9 gv10) (Q59.k1g N L0 (mixK (Q59.fin N K gv1 .ret) kv))) (fun outv2 x3 gv4 gv5 gv6 gv7 => L0 (Q59.st0 nv0 gv1 outv2 x3 gv4 gv5 gv6 gv7)) (fun ov14 ov15 ov16 ov17 ov18 => kv (.exit 0) (Q59.sx0_0 gv1 ov14 ov15 ov16 ov17 ov18)) nv0 outv2 x3 gv4 gv5 gv6 gv7) := by kernel_rfl
theorem Q59.b0_eq {ρ : Type} (N : Nat) (K : AV → Heap → Option ρ) (L0 : St → Option ρ) (nv0 : Int) (gv1 : Nat → Int) (outv2 : Nat) (x3 : Int) (gv4 : Nat) (gv5 : Nat → Nat) (gv6 : Nat → Nat) (gv7 : Nat → Int) :
    xcode (E57 N) ents Q59.kp 1 N (cL (cK (cB (cA (cB (cB Q59.bd)))))) 0 (Q59.st0 nv0 gv1 outv2 x3 gv4 gv5 gv6 gv7) (roundK Q59.kp 1 0 L0 (Q59.k0 N K gv1)) = (Q59.b0 N (fun d0 d1 d2 d3 d4 => K (.slice true 1 0 d0 .whole 1) [⟨false, .flat 1 (.ints .i64 gv1)⟩, ⟨true, .hdr 2 0 d1 d2 d3 none⟩, ⟨true, .flat 0 (.ints .i64 d4)⟩]) (fun row8 x9 gv10 => xloop (xcode (E57 N) ents Q59.kp 1 N (cL (cK (cB (cA (cB (cB (cK (cA (cB (cB (cL (cK (cB (cA (cB (cB Q59.bd)))))))))))))))) 2) Q59.kp 1 2 N (Q59.st1 nv0 gv1 outv2 x3 gv4 gv5 gv6 gv7 row8 x9 gv10) (Q59.k1g N L0 (Q59.k0 N K gv1))) (fun outv2 x3 gv4 gv5 gv6 gv7 => L0 (Q59.st0 nv0 gv1 outv2 x3 gv4 gv5 gv6 gv7)) (fun ov14 ov15 ov16 ov17 ov18 => (Q59.k0 N K gv1) (.exit 0) (Q59.sx0_0 gv1 ov14 ov15 ov16 ov17 ov18)) nv0 outv2 x3 gv4 gv5 gv6 gv7) := by
  have h := Q59.b0_gen N K L0 (Q59.k0 N K gv1) nv0 gv1 outv2 x3 gv4 gv5 gv6 gv7
  rw [Q59.k0_mix] at h
  exact h
theorem Q59.a0_0_eq {ρ : Type} (N : Nat) (K : AV → Heap → Option ρ) (gv1 : Nat → Int) (ov14 : Nat) (ov15 : Nat) (ov16 : Nat → Nat) (ov17 : Nat → Nat) (ov18 : Nat → Int) :
    (Q59.k0 N K gv1) (.exit 0) (Q59.sx0_0 gv1 ov14 ov15 ov16 ov17 ov18) = (Q59.a0_0 N (fun d0 d1 d2 d3 d4 => K (.slice true 1 0 d0 .whole 1) [⟨false, .flat 1 (.ints .i64 gv1)⟩, ⟨true, .hdr 2 0 d1 d2 d3 none⟩, ⟨true, .flat 0 (.ints .i64 d4)⟩]) ov14 ov15 ov16 ov17 ov18) := by kernel_rfl
theorem Q59.l1_eq {ρ : Type} (N : Nat) (K : AV → Heap → Option ρ) (L0 : St → Option ρ) (nv0 : Int) (gv1 : Nat → Int) (outv2 : Nat) (x3 : Int) (gv4 : Nat) (gv5 : Nat → Nat) (gv6 : Nat → Nat) (gv7 : Nat → Int) :
    ∀ (m : Nat) (row8 : Nat) (x9 : Int) (gv10 : Nat → Int), xloop (xcode (E57 N) ents Q59.kp 1 N (cL (cK (cB (cA (cB (cB (cK (cA (cB (cB (cL (cK (cB (cA (cB (cB Q59.bd)))))))))))))))) 2) Q59.kp 1 2 m (Q59.st1 nv0 gv1 outv2 x3 gv4 gv5 gv6 gv7 row8 x9 gv10) (Q59.k1g N L0 (Q59.k0 N K gv1)) = (Q59.l1 N (fun d0 d1 d2 d3 d4 => K (.slice true 1 0 d0 .whole 1) [⟨false, .flat 1 (.ints .i64 gv1)⟩, ⟨true, .hdr 2 0 d1 d2 d3 none⟩, ⟨true, .flat 0 (.ints .i64 d4)⟩]) nv0 gv1 x3 (fun ov12 ov13 => (Q59.k1g N L0 (Q59.k0 N K gv1)) (.exit 2) (Q59.sx1_0 nv0 gv1 outv2 x3 gv4 gv5 gv6 gv7 ov12 ov13)) m row8 x9 gv10) := by
  intro m
  induction m with
  | zero => intros; rfl
  | succ m ih =>
    intro row8 x9 gv10
    refine (Q59.b1_eq N K L0 (fun s => xloop (xcode (E57 N) ents Q59.kp 1 N (cL (cK (cB (cA (cB (cB (cK (cA (cB (cB (cL (cK (cB (cA (cB (cB Q59.bd)))))))))))))))) 2) Q59.kp 1 2 m s (Q59.k1g N L0 (Q59.k0 N K gv1))) nv0 gv1 outv2 x3 gv4 gv5 gv6 gv7 row8 x9 gv10).trans ?_
    simp only [ih]
    kernel_rfl
theorem Q59.l0_eq {ρ : Type} (N : Nat) (K : AV → Heap → Option ρ) (nv0 : Int) (gv1 : Nat → Int) :
    ∀ (m : Nat) (outv2 : Nat) (x3 : Int) (gv4 : Nat) (gv5 : Nat → Nat) (gv6 : Nat → Nat) (gv7 : Nat → Int), xloop (xcode (E57 N) ents Q59.kp 1 N (cL (cK (cB (cA (cB (cB Q59.bd)))))) 0) Q59.kp 1 0 m (Q59.st0 nv0 gv1 outv2 x3 gv4 gv5 gv6 gv7) (Q59.k0 N K gv1) = (Q59.l0 N (fun d0 d1 d2 d3 d4 => K (.slice true 1 0 d0 .whole 1) [⟨false, .flat 1 (.ints .i64 gv1)⟩, ⟨true, .hdr 2 0 d1 d2 d3 none⟩, ⟨true, .flat 0 (.ints .i64 d4)⟩]) nv0 gv1 (fun ov14 ov15 ov16 ov17 ov18 => (Q59.k0 N K gv1) (.exit 0) (Q59.sx0_0 gv1 ov14 ov15 ov16 ov17 ov18)) m outv2 x3 gv4 gv5 gv6 gv7) := by
  intro m
  induction m with
  | zero => intros; rfl
  | succ m ih =>
    intro outv2 x3 gv4 gv5 gv6 gv7
    refine (Q59.b0_eq N K (fun s => xloop (xcode (E57 N) ents Q59.kp 1 N (cL (cK (cB (cA (cB (cB Q59.bd)))))) 0) Q59.kp 1 0 m s (Q59.k0 N K gv1)) nv0 gv1 outv2 x3 gv4 gv5 gv6 gv7).trans ?_
    simp only [ih, Q59.l1_eq, Q59.a1_0_eq]
    kernel_rfl
theorem Q59.s_eq {ρ : Type} (N : Nat) (K : AV → Heap → Option ρ) (nv0 : Int) (gv1 : Nat → Int) :
    xbody (E57 N) ents Q59.kp N Try.f65 Q59.bd [.int .i64 (nv0), .fn 68 0 [[(0, 1)]]] [⟨false, .flat 1 (.ints .i64 gv1)⟩] K = (Q59.s N (fun d0 d1 d2 d3 d4 => K (.slice true 1 0 d0 .whole 1) [⟨false, .flat 1 (.ints .i64 gv1)⟩, ⟨true, .hdr 2 0 d1 d2 d3 none⟩, ⟨true, .flat 0 (.ints .i64 d4)⟩]) (fun outv2 x3 gv4 gv5 gv6 gv7 => xloop (xcode (E57 N) ents Q59.kp 1 N (cL (cK (cB (cA (cB (cB Q59.bd)))))) 0) Q59.kp 1 0 N (Q59.st0 nv0 gv1 outv2 x3 gv4 gv5 gv6 gv7) (Q59.k0 N K gv1))) := by kernel_rfl
theorem Q59.eq {ρ : Type} (N : Nat) (K : AV → Heap → Option ρ) (nv0 : Int) (gv1 : Nat → Int) :
    xbody (E57 N) ents Q59.kp N Try.f65 Q59.bd [.int .i64 (nv0), .fn 68 0 [[(0, 1)]]] [⟨false, .flat 1 (.ints .i64 gv1)⟩] K = (Q59 N (fun d0 d1 d2 d3 d4 => K (.slice true 1 0 d0 .whole 1) [⟨false, .flat 1 (.ints .i64 gv1)⟩, ⟨true, .hdr 2 0 d1 d2 d3 none⟩, ⟨true, .flat 0 (.ints .i64 d4)⟩]) nv0 gv1) := by
  refine (Q59.s_eq N K nv0 gv1).trans ?_
  simp only [Q59.l0_eq, Q59.a0_0_eq]
  kernel_rfl
end
end Go.Proofs.Ytlehklooibbmcaa.H
